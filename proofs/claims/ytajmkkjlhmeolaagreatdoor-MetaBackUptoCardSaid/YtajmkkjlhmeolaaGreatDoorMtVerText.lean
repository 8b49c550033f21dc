/-
  meta.VersionText: the walk. (Printed by wip/gen/mtwr.py.)
-/
import Derived.Test.YtajmkkjlhmeolaaGreatDoorMtUpText
import Derived.Test.YtajmkkjlhmeolaaGreatDoorMfVer
namespace Go.Proofs.YtajmkkjlhmeolaaGreatDoor
open Go.RowKit

set_option maxHeartbeats 2000000 in
set_option maxRecDepth 100000 in
theorem toldVer_any (base b : Nat) (l : List UInt8) (v : Value) (w : World) (h : WrAt w base b l v) (hG : ∀ W, Below base w W → GlobK W) (h0 : l ≠ []) (hl : l.length ≤ 140737488351232) :
    Calls Tryz.prog 73 #[.pointer (some ⟨b, 0, none⟩), .func (.func 27) #[] #[]] w (ToldOut l (readVerL l).isSome base w) := by
  have HST := Lib.hid (string_any base b l v w h h0)
  have HRD : Hid (∀ W, GlobK W → Calls Tryz.prog 27 #[.string ⟨l.toArray⟩] W fun e w' => ∃ (v1 : Int) (v2 v3 : Bool) (v4 v5 : List UInt8) (v6 v7 : Int) (a : Option Addr) (n c : Nat), e = .returned (.tuple #[.agg #[.int .i64 v1, .bool v2, .bool v3, .string ⟨v4.toArray⟩, .string ⟨v5.toArray⟩, .int .i64 v6, .int .i64 v7, .slice a n c], .int .i64 (if (readVerL l).isSome then 0 else 59)]) ∧ Below W.heap.size W w') := fun W hW => by
    refine (readVer_any l W hW hl).mono ?_
    rintro e w' ⟨v, he, h1, h2⟩
    obtain ⟨a, c, rfl⟩ := sl_form h1
    exact ⟨((readVerL l).getD verZ).seq, ((readVerL l).getD verZ).null, ((readVerL l).getD verZ).marker, ((readVerL l).getD verZ).etag, ((readVerL l).getD verZ).type, ((readVerL l).getD verZ).size, ((readVerL l).getD verZ).when_, a, _, c, he, h2⟩
  obtain ⟨ok, hok⟩ : ∃ x, (readVerL l).isSome = x := ⟨_, rfl⟩
  rw [hok] at HRD ⊢
  have HG := Lib.hid hG
  have hle := h.le
  clear h hG hok
  go_enter Tryz.func73, Tryz.ntmps73
  go_wp2_with fail
  refine HST.out.mono ?_
  rintro e w1 ⟨rfl, hb1⟩
  have B1 := Lib.hid hb1
  have hs1 := hb1.size
  clear hb1
  go_wp2_with fail
  refine (HRD.out _ (HG.out _ B1.out)).mono ?_
  rintro e w2 ⟨v1, v2, v3, v4, v5, v6, v7, a, n, c, rfl, hb2⟩
  have B2 := Lib.hid (B1.out.trans (hb2.mono (by omega)))
  have hs2 := hb2.size
  clear hb2
  have BF : Hid (Below base w ((w2.alloc (.cells verZeroC 47)).setRow w2.heap.size #[.int .i64 v1, .bool v2, .bool v3, .string ⟨v4.toArray⟩, .string ⟨v5.toArray⟩, .int .i64 v6, .int .i64 v7, .slice a n c])) := below_one_row _ _ _ _ _ (B2.out.alloc (by omega) _) (by omega)
  cases ok
  all_goals
    go_wp2_with (refine wpList_store_row (by rfl) 47 _ _ (by rfl) w2.heap.size #[.int .i64 v1, .bool v2, .bool v3, .string ⟨v4.toArray⟩, .string ⟨v5.toArray⟩, .int .i64 v6, .int .i64 v7, .slice a n c] (by rfl) (by rfl) 47 verZeroC (by exact heap_alloc_new _ _) (by kernel_rfl) (by kernel_rfl) (by kernel_rfl) ?_)
    go_ret2
    exact ⟨rfl, BF.out⟩

theorem verL_eq (q1 : Int) (q2 q3 : Bool) (q4 q5 : List UInt8) (q6 q7 : Int) (bl : List Int) : verL ⟨q1, q2, q3, q4, q5, q6, q7, bl⟩ = fieldL [86] ++ numL q1 ++ (numL (if q2 then 1 else 0) ++ numL (if q3 then 1 else 0)) ++ (fieldL q4 ++ fieldL q5) ++ (numL q6 ++ (numL q7 ++ numL (bl.length : Int))) ++ bl.flatMap numL := by
  have e : ∀ b : Bool, flagN b = if b then 1 else 0 := fun b => by cases b <;> rfl
  simp [verL, e]

set_option maxHeartbeats 4000000 in
set_option maxRecDepth 100000 in
theorem verText_any (p : VerV) (sv : Value) (w : World) (hG : GlobK w) (hok : IntOK p.seq ∧ IntOK p.size ∧ IntOK p.when_ ∧ ∀ x ∈ p.blobs, IntOK x) (hS : SlAt w 1 sv (intRows p.blobs)) (hl : (verL p).length ≤ 140737488351232) :
    Calls Tryz.prog 39 #[.agg (p.cells sv)] w (ToldOut (verL p) (readVerL (verL p)).isSome w.heap.size w) := by
  obtain ⟨q1, q2, q3, q4, q5, q6, q7, bl⟩ := p
  obtain ⟨o1, o6, o7, ob⟩ := hok
  simp only at o1 o6 o7 ob hS
  obtain ⟨a, c, rfl⟩ := sl_form hS
  have HC : Hid (∀ i x, bl[i]? = some x → ∃ G o, a = some ⟨G, o, none⟩ ∧ w.cell? ⟨G, o + i, none⟩ = some (.int .i64 x) ∧ G < w.heap.size) := fun i x hx => by
    obtain ⟨G, o, he, hcl⟩ := ints_at hS i x hx
    exact ⟨G, o, he, hcl, World.block_lt_of_cell? w _ hcl⟩
  have ol : IntOK (bl.length : Int) := by
    obtain ⟨_, _, _, h2, _⟩ := hS
    rw [intRows_len] at h2
    unfold IntOK
    omega
  clear hS
  have hlL : Hid (verL ⟨q1, q2, q3, q4, q5, q6, q7, bl⟩ = _) := verL_eq q1 q2 q3 q4 q5 q6 q7 bl
  obtain ⟨L, hL⟩ : ∃ L, Hid (verL ⟨q1, q2, q3, q4, q5, q6, q7, bl⟩ = L) := ⟨_, rfl⟩
  rw [hL.out] at hlL hl ⊢
  obtain ⟨ok, hoks⟩ : ∃ o, Hid ((readVerL L).isSome = o) := ⟨_, rfl⟩
  rw [hoks.out]
  have hlen := hl
  rw [hlL.out] at hlen
  simp only [VerV.cells]
  have W0 : Hid (WrAt ((w.alloc (.cells #[.int .i64 q1, .bool q2, .bool q3, .string ⟨q4.toArray⟩, .string ⟨q5.toArray⟩, .int .i64 q6, .int .i64 q7, .slice a bl.length c] 47)).alloc (.cells #[.pointer none, .slice none 0 0] 116)) (w.heap.size + 2) (w.heap.size + 1) [] (.slice none 0 0)) := by
    have := WrAt.new (w.alloc (.cells #[.int .i64 q1, .bool q2, .bool q3, .string ⟨q4.toArray⟩, .string ⟨q5.toArray⟩, .int .i64 q6, .int .i64 q7, .slice a bl.length c] 47)) (w.heap.size + 2) (by simp)
    show WrAt _ _ _ _ _
    simpa using this
  have HG0 : Hid (∀ W, Below w.heap.size w W → GlobK W) := fun W hW => hG.later hW
  have G0 : Hid (GlobK ((w.alloc (.cells #[.int .i64 q1, .bool q2, .bool q3, .string ⟨q4.toArray⟩, .string ⟨q5.toArray⟩, .int .i64 q6, .int .i64 q7, .slice a bl.length c] 47)).alloc (.cells #[.pointer none, .slice none 0 0] 116))) := hG.later (below_alloc (below_alloc (Below.refl _ _) (Nat.le_refl _) _) (Nat.le_refl _) _)
  have BX : Hid (((w.alloc (.cells #[.int .i64 q1, .bool q2, .bool q3, .string ⟨q4.toArray⟩, .string ⟨q5.toArray⟩, .int .i64 q6, .int .i64 q7, .slice a bl.length c] 47)).alloc (.cells #[.pointer none, .slice none 0 0] 116)).heap[w.heap.size]? = some (.cells #[.int .i64 q1, .bool q2, .bool q3, .string ⟨q4.toArray⟩, .string ⟨q5.toArray⟩, .int .i64 q6, .int .i64 q7, .slice a bl.length c] 47 (0, 0))) :=
    (Below.heap_alloc _ _ _ (by simp)).trans (heap_alloc_new _ _)
  have BW : Hid (Below w.heap.size w ((w.alloc (.cells #[.int .i64 q1, .bool q2, .bool q3, .string ⟨q4.toArray⟩, .string ⟨q5.toArray⟩, .int .i64 q6, .int .i64 q7, .slice a bl.length c] 47)).alloc (.cells #[.pointer none, .slice none 0 0] 116))) := below_alloc (below_alloc (Below.refl _ _) (Nat.le_refl _) _) (Nat.le_refl _) _
  have h9 := hG.g.nine
  clear hG
  go_enter Tryz.func39, Tryz.ntmps39
  go_wp2_with fail
  have HSZ : Hid (((w.alloc (.cells #[.int .i64 q1, .bool q2, .bool q3, .string ⟨q4.toArray⟩, .string ⟨q5.toArray⟩, .int .i64 q6, .int .i64 q7, .slice a bl.length c] 47)).alloc (.cells #[.pointer none, .slice none 0 0] 116)).heap.size = w.heap.size + 1 + 1) := by show _ = _; simp
  generalize ((w.alloc (.cells #[.int .i64 q1, .bool q2, .bool q3, .string ⟨q4.toArray⟩, .string ⟨q5.toArray⟩, .int .i64 q6, .int .i64 q7, .slice a bl.length c] 47)).alloc (.cells #[.pointer none, .slice none 0 0] 116)) = w0 at *
  have hw0 := W0.out.le
  have hs0 : w.heap.size + 2 ≤ w0.heap.size := by have := HSZ.out; omega
  have hba : Below w0.heap.size w0 (w0.alloc (.cells #[.string ⟨[86].toArray⟩] 9)) := below_alloc (Below.refl _ _) (Nat.le_refl _) _
  refine (wtext_any (w.heap.size + 2) (w.heap.size + 1) _ (.slice none 0 0) _ (W0.out.later hba) (G0.out.g.later hba) (by omega) [[86]] (w.heap.size + 1 + 1) (strs_lit _ [[86]] _ HSZ.out) (by omega) (by simp [Value.ownBlock]) (by simp [HSZ.out]) ?_).mono ?_
  · simp only [List.flatMap_cons, List.flatMap_nil, List.append_nil, List.nil_append, List.map_cons, List.map_nil]
    simp only [List.flatMap_cons, List.flatMap_nil, List.append_nil, List.length_append, List.map_cons, List.map_nil] at hlen ⊢
    omega
  rintro e w1 ⟨rfl, v1, hw, hr⟩
  have R1 := Lib.hid (Wrote.ahead hba hr)
  have W1 := Lib.hid hw
  have G1 : Hid (GlobK w1) := HG0.out _ (BW.out.trans ((R1.out.below W0.out).mono (by omega)))
  clear hw hr hba
  have hs1 := R1.out.1.size
  have BX1 : Hid _ := box_cells BX.out R1.out (by omega) (by simp [Value.ownBlock])
  have p0 : w1.cell? ⟨w.heap.size, 0, none⟩ = some (.int .i64 q1) := cell_of_heap BX1.out
  go_wp2_with fail
  have hba : Below w1.heap.size w1 (w1.alloc (.cells #[.int .i64 q1] 3)) := below_alloc (Below.refl _ _) (Nat.le_refl _) _
  refine (wnumber_any (w.heap.size + 2) (w.heap.size + 1) _ v1 _ (W1.out.later hba) (G1.out.g.later hba) (by omega) [q1] (by intro n hn; simp only [List.mem_cons, List.not_mem_nil, or_false] at hn; rcases hn with rfl <;> assumption) (some ⟨w1.heap.size, 0, none⟩) 1 (ints_lit w1 [q1] _ _ (by have := W1.out.lt; omega) (fun e => by have := (W1.out.own.lt _ e).2; omega)) ?_).mono ?_
  · simp only [List.flatMap_cons, List.flatMap_nil, List.append_nil, List.nil_append, List.map_cons, List.map_nil]
    simp only [List.flatMap_cons, List.flatMap_nil, List.append_nil, List.length_append, List.map_cons, List.map_nil] at hlen ⊢
    omega
  rintro e w2 ⟨rfl, v2, hw, hr⟩
  have R2 := Lib.hid (R1.out.trans (Wrote.ahead hba hr))
  have W2 := Lib.hid hw
  have G2 : Hid (GlobK w2) := HG0.out _ (BW.out.trans ((R2.out.below W0.out).mono (by omega)))
  clear hw hr hba p0
  have hs2 := R2.out.1.size
  have BX2 : Hid _ := box_cells BX.out R2.out (by omega) (by simp [Value.ownBlock])
  have p1 : w2.cell? ⟨w.heap.size, 1, none⟩ = some (.bool q2) := cell_of_heap BX2.out
  have p2 : w2.cell? ⟨w.heap.size, 2, none⟩ = some (.bool q3) := cell_of_heap BX2.out
  go_wp2_with fail
  have hba : Below w2.heap.size w2 (w2.alloc (.cells #[.bool q2, .bool q3] 4)) := below_alloc (Below.refl _ _) (Nat.le_refl _) _
  refine (wflag_any (w.heap.size + 2) (w.heap.size + 1) _ v2 _ (W2.out.later hba) (G2.out.g.later hba) (by omega) [q2, q3] w2.heap.size (bools_lit _ [q2, q3] _ rfl) (by have := W2.out.lt; omega) (fun e => by have := (W2.out.own.lt _ e).2; omega) ?_).mono ?_
  · simp only [List.flatMap_cons, List.flatMap_nil, List.append_nil, List.nil_append, List.map_cons, List.map_nil]
    simp only [List.flatMap_cons, List.flatMap_nil, List.append_nil, List.length_append, List.map_cons, List.map_nil] at hlen ⊢
    omega
  rintro e w3 ⟨rfl, v3, hw, hr⟩
  have R3 := Lib.hid (R2.out.trans (Wrote.ahead hba hr))
  have W3 := Lib.hid hw
  have G3 : Hid (GlobK w3) := HG0.out _ (BW.out.trans ((R3.out.below W0.out).mono (by omega)))
  clear hw hr hba p1 p2
  have hs3 := R3.out.1.size
  have BX3 : Hid _ := box_cells BX.out R3.out (by omega) (by simp [Value.ownBlock])
  have p3 : w3.cell? ⟨w.heap.size, 3, none⟩ = some (.string ⟨q4.toArray⟩) := cell_of_heap BX3.out
  have p4 : w3.cell? ⟨w.heap.size, 4, none⟩ = some (.string ⟨q5.toArray⟩) := cell_of_heap BX3.out
  go_wp2_with fail
  have hba : Below w3.heap.size w3 (w3.alloc (.cells #[.string ⟨q4.toArray⟩, .string ⟨q5.toArray⟩] 9)) := below_alloc (Below.refl _ _) (Nat.le_refl _) _
  refine (wtext_any (w.heap.size + 2) (w.heap.size + 1) _ v3 _ (W3.out.later hba) (G3.out.g.later hba) (by omega) [q4, q5] w3.heap.size (strs_lit _ [q4, q5] _ rfl) (by have := W3.out.lt; omega) (fun e => by have := (W3.out.own.lt _ e).2; omega) (by simp) ?_).mono ?_
  · simp only [List.flatMap_cons, List.flatMap_nil, List.append_nil, List.nil_append, List.map_cons, List.map_nil]
    simp only [List.flatMap_cons, List.flatMap_nil, List.append_nil, List.length_append, List.map_cons, List.map_nil] at hlen ⊢
    omega
  rintro e w4 ⟨rfl, v4, hw, hr⟩
  have R4 := Lib.hid (R3.out.trans (Wrote.ahead hba hr))
  have W4 := Lib.hid hw
  have G4 : Hid (GlobK w4) := HG0.out _ (BW.out.trans ((R4.out.below W0.out).mono (by omega)))
  clear hw hr hba p3 p4
  have hs4 := R4.out.1.size
  have BX4 : Hid _ := box_cells BX.out R4.out (by omega) (by simp [Value.ownBlock])
  have p5 : w4.cell? ⟨w.heap.size, 5, none⟩ = some (.int .i64 q6) := cell_of_heap BX4.out
  have p6 : w4.cell? ⟨w.heap.size, 6, none⟩ = some (.int .i64 q7) := cell_of_heap BX4.out
  have p7 : w4.cell? ⟨w.heap.size, 7, none⟩ = some (.slice a bl.length c) := cell_of_heap BX4.out
  go_wp2_with fail
  have hba : Below w4.heap.size w4 (w4.alloc (.cells #[.int .i64 q6, .int .i64 q7, .int .i64 (bl.length : Int)] 3)) := below_alloc (Below.refl _ _) (Nat.le_refl _) _
  refine (wnumber_any (w.heap.size + 2) (w.heap.size + 1) _ v4 _ (W4.out.later hba) (G4.out.g.later hba) (by omega) [q6, q7, (bl.length : Int)] (by intro n hn; simp only [List.mem_cons, List.not_mem_nil, or_false] at hn; rcases hn with rfl | rfl | rfl <;> assumption) (some ⟨w4.heap.size, 0, none⟩) 3 (ints_lit w4 [q6, q7, (bl.length : Int)] _ _ (by have := W4.out.lt; omega) (fun e => by have := (W4.out.own.lt _ e).2; omega)) ?_).mono ?_
  · simp only [List.flatMap_cons, List.flatMap_nil, List.append_nil, List.nil_append, List.map_cons, List.map_nil]
    simp only [List.flatMap_cons, List.flatMap_nil, List.append_nil, List.length_append, List.map_cons, List.map_nil] at hlen ⊢
    omega
  rintro e w5 ⟨rfl, v5, hw, hr⟩
  have R5 := Lib.hid (R4.out.trans (Wrote.ahead hba hr))
  have W5 := Lib.hid hw
  have G5 : Hid (GlobK w5) := HG0.out _ (BW.out.trans ((R5.out.below W0.out).mono (by omega)))
  clear hw hr hba p5 p6 p7
  have hs5 := R5.out.1.size
  have BX5 : Hid _ := box_cells BX.out R5.out (by omega) (by simp [Value.ownBlock])
  have p7 : w5.cell? ⟨w.heap.size, 7, none⟩ = some (.slice a bl.length c) := cell_of_heap BX5.out
  go_wp2_with fail
  refine (wnumber_any (w.heap.size + 2) (w.heap.size + 1) _ v5 _ W5.out G5.out.g (by omega) bl ob a c (fun i x hx => ?_) ?_).mono ?_
  · obtain ⟨G, o, he, hcl, hlt⟩ := HC.out i x hx
    exact ⟨G, o, he, R5.out.cell (cell_later' BW.out hcl) (by omega) (by simp [Value.ownBlock]), by omega, fun e => by have := (W5.out.own.lt _ e).1; omega⟩
  · simp only [List.flatMap_cons, List.flatMap_nil, List.append_nil, List.nil_append, List.map_cons, List.map_nil]
    simp only [List.flatMap_cons, List.flatMap_nil, List.append_nil, List.length_append, List.map_cons, List.map_nil] at hlen ⊢
    omega
  rintro e w6 ⟨rfl, v6, hw, hr⟩
  have R6 := Lib.hid (R5.out.trans hr)
  have W6 := Lib.hid hw
  have G6 : Hid (GlobK w6) := HG0.out _ (BW.out.trans ((R6.out.below W0.out).mono (by omega)))
  clear hw hr p7
  have hs6 := R6.out.1.size
  have BX6 : Hid _ := box_cells BX.out R6.out (by omega) (by simp [Value.ownBlock])
  have HWL : Hid (WrAt w6 (w.heap.size + 2) (w.heap.size + 1) L v6) := by
    show WrAt _ _ _ _ _
    have e : L = [] ++ [[86]].flatMap fieldL ++ [q1].flatMap numL ++ ([q2, q3].map fun x => if x then (1 : Int) else 0).flatMap numL ++ [q4, q5].flatMap fieldL ++ [q6, q7, (bl.length : Int)].flatMap numL ++ bl.flatMap numL := by rw [hlL.out]; simp
    rw [e]; exact W6.out
  have hne : Hid (L ≠ []) := by show L ≠ []; rw [hlL.out]; simp [fieldL]
  go_wp2_with fail
  have HTG : Hid (∀ W, Below (w.heap.size + 2) w6 W → GlobK W) := fun W hW => HG0.out _ ((BW.out.trans ((R6.out.below W0.out).mono (by omega))).trans (hW.mono (by omega)))
  refine Calls.mono (toldVer_any _ _ L v6 _ HWL.out HTG.out hne.out hl) ?_
  rw [hoks.out]
  rintro e wz ⟨rfl, hbz⟩
  have BZ : Hid (Below w.heap.size w wz) := (BW.out.trans ((R6.out.below W0.out).mono (by omega))).trans (hbz.mono (by omega))
  clear hbz
  cases ok
  all_goals
    go_wp2
    go_ret2
    exact ⟨rfl, BZ.out⟩

end Go.Proofs.YtajmkkjlhmeolaaGreatDoor
