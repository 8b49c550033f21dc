/-
  The chapter's examples: true.
-/
import Derived.Test.YtgklbmcnpnmkkaaDoorSm36
namespace Go.Proofs.YtgklbmcnpnmkkaaDoor
open Go.RowKit Go.Lib

/-- the three pages of the examples -/
def ExPg1 (w : World) (e : Ending) (w' : World) : Prop :=
  ∃ g c, e = .returned (.agg #[.slice (some ⟨g, 0, none⟩) 2 c, .bool false, .string ⟨#[]⟩, .int .i64 0]) ∧ Below w.heap.size w w' ∧ w'.cell? ⟨g, 0, none⟩ = some (.string ⟨#[97, 47]⟩) ∧ w'.cell? ⟨g, 1, none⟩ = some (.bool true) ∧ w'.cell? ⟨g, 18, none⟩ = some (.string ⟨#[98]⟩)
def ExPg2 (w : World) (e : Ending) (w' : World) : Prop :=
  ∃ g c, e = .returned (.agg #[.slice (some ⟨g, 0, none⟩) 1 c, .bool true, .string ⟨#[97, 47]⟩, .int .i64 0]) ∧ Below w.heap.size w w'
def ExPg3 (w : World) (e : Ending) (w' : World) : Prop :=
  ∃ g c, e = .returned (.agg #[.slice (some ⟨g, 0, none⟩) 2 c, .bool false, .string ⟨#[]⟩, .int .i64 0]) ∧ Below w.heap.size w w' ∧ w'.cell? ⟨g, 3, none⟩ = some (.int .i64 1)
theorem ex_size : ∀ r ∈ [exCom, exRow [98] 0, exRow [107] 1, exRow [108] 2], SizeOK r := by
  intro r hr
  simp only [List.mem_cons, List.not_mem_nil, or_false] at hr
  rcases hr with rfl | rfl | rfl | rfl <;> exact size_nil rfl rfl
theorem ex_call1 {w : World} {g : Nat} (hG : GlobL w) (h : w.heap[g]? = some (.cells (exL1.map RowV.cells).flatten.toArray 36 (0, 0))) :
    Calls Tryd.prog 12 #[.slice (some ⟨g, 0, none⟩) 3 3, .string ⟨#[]⟩, .string ⟨#[47]⟩, .string ⟨#[]⟩, .int .i64 9] w (ExPg1 w) := by
  refine (objects_any (pre := []) (delim := [47]) [] 9 (list_lit hG h exL1_lit (by decide) (by decide) (by decide))).mono ?_
  intro e w' hp
  rw [ex_pg1] at hp
  obtain ⟨g1, c1, rfl, hb, hs⟩ := page_lit hp (by simp) (by simp) (fun r hr => ex_size r (by simp at hr ⊢; rcases hr with h | h <;> simp [h]))
  exact ⟨g1, c1, rfl, hb, (hs 0 _ rfl).key, (hs 0 _ rfl).common, (hs 1 _ rfl).key⟩
theorem ex_call2 {w : World} {g : Nat} (hG : GlobL w) (h : w.heap[g]? = some (.cells (exL1.map RowV.cells).flatten.toArray 36 (0, 0))) :
    Calls Tryd.prog 12 #[.slice (some ⟨g, 0, none⟩) 3 3, .string ⟨#[]⟩, .string ⟨#[47]⟩, .string ⟨#[]⟩, .int .i64 1] w (ExPg2 w) := by
  refine (objects_any (pre := []) (delim := [47]) [] 1 (list_lit hG h exL1_lit (by decide) (by decide) (by decide))).mono ?_
  intro e w' hp
  rw [ex_pg2] at hp
  obtain ⟨g1, c1, rfl, hb, hs⟩ := page_lit hp (by simp) (by simp) (fun r hr => ex_size r (by simp at hr ⊢; simp [hr]))
  exact ⟨g1, c1, rfl, hb⟩
theorem ex_call3 {w : World} {g : Nat} (hG : GlobL w) (h : w.heap[g]? = some (.cells (exL2.map RowV.cells).flatten.toArray 36 (0, 0))) :
    Calls Tryd.prog 10 #[.slice (some ⟨g, 0, none⟩) 3 3, .string ⟨#[]⟩, .string ⟨#[]⟩, .string ⟨#[107]⟩, .int .i64 3, .int .i64 9] w (ExPg3 w) := by
  refine (versions_any (pre := []) (delim := []) [107] 3 9 (list_lit hG h exL2_lit (by decide) (by decide) (by decide))).mono ?_
  intro e w' hp
  rw [ex_pg3] at hp
  obtain ⟨g1, c1, rfl, hb, hs⟩ := page_lit hp (by simp) (by simp) (fun r hr => ex_size r (by simp at hr ⊢; rcases hr with h | h <;> simp [h]))
  exact ⟨g1, c1, rfl, hb, (hs 0 _ rfl).seq⟩
theorem ex_call4 (w : World) (hG : GlobL w) : Calls Tryd.prog 13 #[.string ⟨#[107]⟩, .int .i64 1] w fun e w' => e = .returned (.string ⟨#[77, 68, 65, 119, 77, 68, 65, 119, 77, 68, 65, 119, 77, 68, 65, 119, 77, 68, 65, 119, 77, 87, 115, 61]⟩) ∧ Below w.heap.size w w' := by
  have := token_any [107] 1 (by unfold IntOK; omega) w hG.g (by decide)
  unfold TokOut at this
  rw [ex_tok] at this
  exact this
theorem ex_call5 (w : World) (hG : GlobL w) : Calls Tryd.prog 14 #[.string ⟨#[77, 68, 65, 119, 77, 68, 65, 119, 77, 68, 65, 119, 77, 68, 65, 119, 77, 68, 65, 119, 77, 87, 115, 61]⟩] w fun e w' => e = .returned (.tuple #[.string ⟨#[107]⟩, .int .i64 1, .int .i64 0]) ∧ Below w.heap.size w w' := by
  have := readToken_any exTok w hG.g (by decide)
  unfold RdTokOut at this
  rw [ex_read] at this
  exact this

set_option maxHeartbeats 8000000 in
set_option maxRecDepth 100000 in
theorem examples_walk (w : World) (hg : GlobL w) : Calls Tryd.prog 8 #[] w (fun e w' => e = .returned (.bool true) ∧ Below w.heap.size w w') := by
  have HG := Lib.hid hg
  clear hg
  go_enter Tryd.func8, Tryd.ntmps8
  go_wp2_with fail
  generalize hW0 : w.alloc _ = W0
  have B0 : Hid (Below w.heap.size w W0) := by show Below _ _ _; rw [← hW0]; exact below_alloc (Below.refl _ _) (Nat.le_refl _) _
  have H0 : Hid (W0.heap[w.heap.size]? = some (.cells (exL1.map RowV.cells).flatten.toArray 36 (0, 0))) := by show _ = _; rw [← hW0]; exact heap_alloc_new _ _
  clear hW0
  have C1 := Lib.hid (ex_call1 (HG.out.later B0.out) H0.out)
  refine (C1.out).mono ?_
  rintro e w1 ⟨g1, c1, rfl, hb1, hk1, hc1, hk2⟩
  have hs0 : w.heap.size < W0.heap.size := (Array.getElem?_eq_some_iff.1 H0.out).1
  have HK := Lib.hid hk1
  have HC := Lib.hid hc1
  have HK2 := Lib.hid hk2
  have B1 := Lib.hid hb1
  clear hk1 hc1 hk2 hb1
  go_wp2_with (refine wpList_store_row (by rfl) 26 _ _ (by rfl) w1.heap.size #[.slice (some ⟨g1, 0, none⟩) 2 c1, .bool false, .string ⟨#[]⟩, .int .i64 0] (by rfl) (by rfl) 26 pageZC (by exact heap_alloc_new _ _) (by kernel_rfl) (by rfl) (by kernel_rfl) ?_; rw [setRow_alloc _ _ _ _ _ rfl])
  have X1 : Hid ((w1.alloc (.cells #[.slice (some ⟨g1, 0, none⟩) 2 c1, .bool false, .string ⟨#[]⟩, .int .i64 0] 26)).heap[w1.heap.size]? = some (.cells #[.slice (some ⟨g1, 0, none⟩) 2 c1, .bool false, .string ⟨#[]⟩, .int .i64 0] 26 (0, 0))) := heap_alloc_new _ _
  have BX1 : Hid (Below w1.heap.size w1 (w1.alloc (.cells #[.slice (some ⟨g1, 0, none⟩) 2 c1, .bool false, .string ⟨#[]⟩, .int .i64 0] 26))) := below_alloc (Below.refl _ _) (Nat.le_refl _) _
  generalize w1.alloc (.cells #[.slice (some ⟨g1, 0, none⟩) 2 c1, .bool false, .string ⟨#[]⟩, .int .i64 0] 26) = W1 at *
  have A1 : Hid (Below W0.heap.size W0 W1) := B1.out.trans (BX1.out.mono B1.out.size)
  have C2 := Lib.hid (ex_call2 (HG.out.later (B0.out.trans (A1.out.mono B0.out.size))) ((A1.out.block _ hs0).trans H0.out))
  refine (C2.out).mono ?_
  rintro e w2 ⟨g2, c2, rfl, hb2⟩
  have A2 : Hid (Below W0.heap.size W0 w2) := A1.out.trans (hb2.mono A1.out.size)
  have HP1 : Hid (Below w1.heap.size w1 w2) := BX1.out.trans (hb2.mono BX1.out.size)
  have X2 := Lib.hid ((hb2.block _ (Array.getElem?_eq_some_iff.1 X1.out).1).trans X1.out)
  clear hb2 X1 C1 C2 H0
  generalize hgp1 : w1.heap.size = p1 at *
  have L2 := Lib.hid (Array.getElem?_eq_some_iff.1 X2.out).1
  go_wp2_with (refine wpList_store_row (by rfl) 26 _ _ (by rfl) w2.heap.size #[.slice (some ⟨g2, 0, none⟩) 1 c2, .bool true, .string ⟨#[97, 47]⟩, .int .i64 0] (by rfl) (by rfl) 26 pageZC (by exact heap_alloc_new _ _) (by kernel_rfl) (by rfl) (by kernel_rfl) ?_; rw [setRow_alloc _ _ _ _ _ rfl])
  generalize hW3 : (w2.alloc _).alloc _ = W3
  have E2 : Hid (Below w2.heap.size w2 W3) := by show Below _ _ _; rw [← hW3]; exact below_alloc (below_alloc (Below.refl _ _) (Nat.le_refl _) _) (Nat.le_refl _) _
  have X3 : Hid (W3.heap[w2.heap.size]? = some (.cells #[.slice (some ⟨g2, 0, none⟩) 1 c2, .bool true, .string ⟨#[97, 47]⟩, .int .i64 0] 26 (0, 0))) := by show _ = _; rw [← hW3]; exact heap_old _ (heap_alloc_new _ _)
  have X4 : Hid (W3.heap[w2.heap.size + 1]? = some (.cells (exL2.map RowV.cells).flatten.toArray 36 (0, 0))) := by show _ = _; rw [← hW3]; rw [show w2.heap.size + 1 = (w2.alloc (.cells #[.slice (some ⟨g2, 0, none⟩) 1 c2, .bool true, .string ⟨#[97, 47]⟩, .int .i64 0] 26)).heap.size from by simp]; exact heap_alloc_new _ _
  clear hW3
  have A3 : Hid (Below W0.heap.size W0 W3) := A2.out.trans (E2.out.mono A2.out.size)
  have C3 := Lib.hid (ex_call3 (HG.out.later (B0.out.trans (A3.out.mono B0.out.size))) X4.out)
  refine (C3.out).mono ?_
  rintro e w3 ⟨g3, c3, rfl, hb3, hk3⟩
  have HK3 := Lib.hid hk3
  have E3 := Lib.hid (E2.out.trans (hb3.mono E2.out.size))
  have A4 := Lib.hid (A3.out.trans (hb3.mono A3.out.size))
  have X5 := Lib.hid ((hb3.block _ (Array.getElem?_eq_some_iff.1 X3.out).1).trans X3.out)
  have L3 := Lib.hid (Array.getElem?_eq_some_iff.1 X5.out).1
  clear hb3 hk3 X3 X4 C3
  generalize hgp2 : w2.heap.size = p2 at *
  go_wp2_with (refine wpList_store_row (by rfl) 26 _ _ (by rfl) w3.heap.size #[.slice (some ⟨g3, 0, none⟩) 2 c3, .bool false, .string ⟨#[]⟩, .int .i64 0] (by rfl) (by rfl) 26 pageZC (by exact heap_alloc_new _ _) (by kernel_rfl) (by rfl) (by kernel_rfl) ?_; rw [setRow_alloc _ _ _ _ _ rfl])
  have X6 : Hid ((w3.alloc (.cells #[.slice (some ⟨g3, 0, none⟩) 2 c3, .bool false, .string ⟨#[]⟩, .int .i64 0] 26)).heap[w3.heap.size]? = some (.cells #[.slice (some ⟨g3, 0, none⟩) 2 c3, .bool false, .string ⟨#[]⟩, .int .i64 0] 26 (0, 0))) := heap_alloc_new _ _
  have E6 : Hid (Below w3.heap.size w3 (w3.alloc (.cells #[.slice (some ⟨g3, 0, none⟩) 2 c3, .bool false, .string ⟨#[]⟩, .int .i64 0] 26))) := below_alloc (Below.refl _ _) (Nat.le_refl _) _
  generalize w3.alloc (.cells #[.slice (some ⟨g3, 0, none⟩) 2 c3, .bool false, .string ⟨#[]⟩, .int .i64 0] 26) = W6 at *
  have C4 := Lib.hid (ex_call4 W6 (HG.out.later ((B0.out.trans (A4.out.mono B0.out.size)).trans (E6.out.mono (B0.out.trans (A4.out.mono B0.out.size)).size))))
  refine (C4.out).mono ?_
  rintro e w4 ⟨rfl, hb4⟩
  have E7 := Lib.hid (E6.out.trans (hb4.mono E6.out.size))
  have X7 := Lib.hid ((hb4.block _ (Array.getElem?_eq_some_iff.1 X6.out).1).trans X6.out)
  clear hb4 C4 X6
  go_wp2_with fail
  have C5 := Lib.hid (ex_call5 w4 (HG.out.later ((B0.out.trans (A4.out.mono B0.out.size)).trans (E7.out.mono (B0.out.trans (A4.out.mono B0.out.size)).size))))
  refine (C5.out).mono ?_
  rintro e w5 ⟨rfl, hb5⟩
  have E8 := Lib.hid (E7.out.trans (hb5.mono E7.out.size))
  have X8 := Lib.hid ((hb5.block _ (Array.getElem?_eq_some_iff.1 X7.out).1).trans X7.out)
  have BE := Lib.hid ((B0.out.trans (A4.out.mono B0.out.size)).trans (E8.out.mono (B0.out.trans (A4.out.mono B0.out.size)).size))
  generalize hgp3 : w3.heap.size = p3 at *
  have F1 := Lib.hid (Array.getElem?_eq_some_iff.1 X8.out).1
  -- all that is read, at the end
  have K2 : Hid (w5.heap[p2]? = some (.cells #[.slice (some ⟨g2, 0, none⟩) 1 c2, .bool true, .string ⟨#[97, 47]⟩, .int .i64 0] 26 (0, 0))) := (E8.out.block _ L3.out).trans X5.out
  have K1 : Hid (w5.heap[p1]? = some (.cells #[.slice (some ⟨g1, 0, none⟩) 2 c1, .bool false, .string ⟨#[]⟩, .int .i64 0] 26 (0, 0))) := (E8.out.block _ (by have := L2.out; have := L3.out; omega)).trans ((E3.out.block _ L2.out).trans X2.out)
  have T3 : ∀ {g o : Nat} {v : Value}, w3.cell? ⟨g, o, none⟩ = some v → w5.cell? ⟨g, o, none⟩ = some v := fun h => cell_later (by rw [hgp3]; exact E8.out) h
  have T1 : ∀ {g o : Nat} {v : Value}, w1.cell? ⟨g, o, none⟩ = some v → w5.cell? ⟨g, o, none⟩ = some v := fun h => T3 (cell_later (by rw [hgp2]; exact E3.out) (cell_later (by rw [hgp1]; exact HP1.out) h))
  have k10 : w5.cell? ⟨p1, 0, none⟩ = some (.slice (some ⟨g1, 0, none⟩) 2 c1) := cell_of_heap K1.out
  have k11 : w5.cell? ⟨p1, 1, none⟩ = some (.bool false) := cell_of_heap K1.out
  have k20 : w5.cell? ⟨p2, 0, none⟩ = some (.slice (some ⟨g2, 0, none⟩) 1 c2) := cell_of_heap K2.out
  have k21 : w5.cell? ⟨p2, 1, none⟩ = some (.bool true) := cell_of_heap K2.out
  have k22 : w5.cell? ⟨p2, 2, none⟩ = some (.string ⟨#[97, 47]⟩) := cell_of_heap K2.out
  have k30 : w5.cell? ⟨p3, 0, none⟩ = some (.slice (some ⟨g3, 0, none⟩) 2 c3) := cell_of_heap X8.out
  have r10 := T1 HK.out
  have r11 := T1 HC.out
  have r12 := T1 HK2.out
  have r30 := T3 HK3.out
  clear hb5
  have C6 := Lib.hid (ex_call4 w5 (HG.out.later BE.out))
  go_wp2_with fail
  refine (C6.out).mono ?_
  rintro e w6 ⟨rfl, hb6⟩
  have BE6 := Lib.hid (BE.out.trans (hb6.mono BE.out.size))
  go_wp2_with fail
  go_ret
  exact ⟨rfl, BE6.out⟩
end Go.Proofs.YtgklbmcnpnmkkaaDoor
