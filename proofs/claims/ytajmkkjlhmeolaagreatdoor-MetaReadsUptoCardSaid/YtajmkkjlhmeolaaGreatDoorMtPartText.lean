/-
  meta.PartText, told: the walks.
-/
import Derived.Test.YtajmkkjlhmeolaaGreatDoorSm15
import Derived.Test.YtajmkkjlhmeolaaGreatDoorMtReadPart
namespace Go.Proofs.YtajmkkjlhmeolaaGreatDoor
open Go.RowKit

/-- the record of a part -/
def partL (p : PartV) : List UInt8 := fieldL [80] ++ [p.num, p.size, p.when_].flatMap numL ++ fieldL p.etag ++ numL p.blob
def PartV.IntsOK (p : PartV) : Prop := IntOK p.num ∧ IntOK p.size ∧ IntOK p.when_ ∧ IntOK p.blob

/-- what a writing tells -/
def ToldOut (l : List UInt8) (ok : Bool) (B : Nat) (w : World) (e : Ending) (w' : World) : Prop :=
  e = .returned (.tuple #[.string ⟨(if ok then l else []).toArray⟩, .int .i64 (if ok then 0 else 1)]) ∧ Below B w w'

set_option maxHeartbeats 2000000 in
set_option maxRecDepth 100000 in
theorem toldPart_any (base b : Nat) (l : List UInt8) (v : Value) (w : World) (h : WrAt w base b l v) (hG : Glob w) (hb9 : 9 ≤ b) (h0 : l ≠ []) (hl : l.length ≤ 140737488351232) :
    Calls Tryz.prog 75 #[.pointer (some ⟨b, 0, none⟩), .func (.func 29) #[] #[]] w (ToldOut l (readPartL l).isSome base w) := by
  have HST := Lib.hid (string_any base b l v w h h0)
  have HRD := Lib.hid (fun W hg => readPart_any l W hg hl)
  generalize readPartL l = o at HRD ⊢
  have HG : Hid (∀ W, Below base w W → Glob W) := fun W hW => hG.under (by have := h.low; omega) hW
  have hle := h.le
  clear h hG
  go_enter Tryz.func75, Tryz.ntmps75
  go_wp2_with fail
  refine HST.out.mono ?_
  rintro e w1 ⟨rfl, hb1⟩
  have B1 := Lib.hid hb1
  have hs1 := hb1.size
  clear hb1
  go_wp2_with fail
  refine (HRD.out _ (HG.out _ B1.out)).mono ?_
  rintro e w2 ⟨rfl, hb2⟩
  have B2 := Lib.hid (B1.out.trans (hb2.mono (by omega)))
  have hs2 := hb2.size
  clear hb2
  cases o with
  | some p =>
    have BF : Hid (Below base w ((w2.alloc (.cells partZero 56)).setRow w2.heap.size p.cells)) := below_one_row _ _ _ _ _ (B2.out.alloc (by omega) _) (by omega)
    go_wp2_with (refine wpList_store_row (by rfl) 56 _ _ (by rfl) w2.heap.size p.cells (by rfl) (by rfl) 56 partZero (by exact heap_alloc_new _ _) (by kernel_rfl) (by kernel_rfl) (by kernel_rfl) ?_)
    go_ret2
    exact ⟨rfl, BF.out⟩
  | none =>
    have BF : Hid (Below base w ((w2.alloc (.cells partZero 56)).setRow w2.heap.size partZero)) := below_one_row _ _ _ _ _ (B2.out.alloc (by omega) _) (by omega)
    go_wp2_with (refine wpList_store_row (by rfl) 56 _ _ (by rfl) w2.heap.size partZero (by rfl) (by rfl) 56 partZero (by exact heap_alloc_new _ _) (by kernel_rfl) (by kernel_rfl) (by kernel_rfl) ?_)
    go_ret2
    exact ⟨rfl, BF.out⟩

theorem strs_one (w : World) (s : List UInt8) (G : Nat) (h : w.heap.size = G) : StrsAt (w.alloc (.cells #[.string ⟨s.toArray⟩] 9)) G [s] := fun j x hj => by
  obtain rfl : j = 0 := by have := (List.getElem?_eq_some_iff.1 hj).1; simpa using this
  simp only [List.getElem?_cons_zero, Option.some.injEq] at hj
  subst hj
  exact cell_new _ _ _ _ _ _ h.symm rfl
theorem ints_lit (w : World) (ns : List Int) (b : Nat) (v : Value) (hb : w.heap.size ≠ b) (hv : v.ownBlock ≠ some w.heap.size) : ∀ i x, ns[i]? = some x → ∃ G o, some (⟨w.heap.size, 0, none⟩ : Addr) = some ⟨G, o, none⟩ ∧ (w.alloc (.cells (ns.map (Value.int .i64)).toArray 3)).cell? ⟨G, o + i, none⟩ = some (.int .i64 x) ∧ G ≠ b ∧ v.ownBlock ≠ some G := fun i x hx =>
  ⟨_, 0, rfl, cell_new _ _ _ _ _ _ rfl (by simp [hx]), hb, hv⟩

theorem box_cells {w w1 : World} {A : Nat} {cs : Array Value} {t : TypeId} (h : w.heap[A]? = some (.cells cs t (0, 0))) {b : Nat} {v v' : Value} (hr : Wrote w w1 b v v') (h1 : A ≠ b) (h2 : v.ownBlock ≠ some A) : w1.heap[A]? = some (.cells cs t (0, 0)) :=
  (hr.1.block A (Array.getElem?_eq_some_iff.1 h).1 (fun e => e.elim h1 (fun e => h2 e.symm))).trans h

set_option maxHeartbeats 2000000 in
set_option maxRecDepth 100000 in
theorem partText_any (p : PartV) (w : World) (hG : Glob w) (hok : p.IntsOK) (hl : (partL p).length ≤ 140737488351232) :
    Calls Tryz.prog 41 #[.agg p.cells] w (ToldOut (partL p) (readPartL (partL p)).isSome w.heap.size w) := by
  obtain ⟨n1, n2, n3, et, n4⟩ := p
  obtain ⟨o1, o2, o3, o4⟩ := hok
  simp only at o1 o2 o3 o4
  have hlL : Hid (partL ⟨n1, n2, n3, et, n4⟩ = fieldL [80] ++ [n1, n2, n3].flatMap numL ++ fieldL et ++ numL n4) := rfl
  obtain ⟨L, hL⟩ : ∃ L, Hid (partL ⟨n1, n2, n3, et, n4⟩ = L) := ⟨_, rfl⟩
  rw [hL.out] at hlL hl ⊢
  obtain ⟨ok, hoks⟩ : ∃ o, Hid ((readPartL L).isSome = o) := ⟨_, rfl⟩
  rw [hoks.out]
  have hlen : (fieldL [80] ++ [n1, n2, n3].flatMap numL ++ fieldL et ++ numL n4).length ≤ 140737488351232 := by rw [← hlL.out]; exact hl
  simp only [PartV.cells]
  have W0 : Hid (WrAt ((w.alloc (.cells #[.int .i64 n1, .int .i64 n2, .int .i64 n3, .string ⟨et.toArray⟩, .int .i64 n4] 56)).alloc (.cells #[.pointer none, .slice none 0 0] 116)) (w.heap.size + 2) (w.heap.size + 1) [] (.slice none 0 0)) := by
    have := WrAt.new (w.alloc (.cells #[.int .i64 n1, .int .i64 n2, .int .i64 n3, .string ⟨et.toArray⟩, .int .i64 n4] 56)) (w.heap.size + 2) (by simp)
    show WrAt _ _ _ _ _
    simpa using this
  have G0 : Hid (Glob ((w.alloc (.cells #[.int .i64 n1, .int .i64 n2, .int .i64 n3, .string ⟨et.toArray⟩, .int .i64 n4] 56)).alloc (.cells #[.pointer none, .slice none 0 0] 116))) := hG.later (below_alloc (below_alloc (Below.refl _ _) (Nat.le_refl _) _) (Nat.le_refl _) _)
  have BX : Hid (((w.alloc (.cells #[.int .i64 n1, .int .i64 n2, .int .i64 n3, .string ⟨et.toArray⟩, .int .i64 n4] 56)).alloc (.cells #[.pointer none, .slice none 0 0] 116)).heap[w.heap.size]? = some (.cells #[.int .i64 n1, .int .i64 n2, .int .i64 n3, .string ⟨et.toArray⟩, .int .i64 n4] 56 (0, 0))) :=
    (Below.heap_alloc _ _ _ (by simp)).trans (heap_alloc_new _ _)
  have BW : Hid (Below w.heap.size w ((w.alloc (.cells #[.int .i64 n1, .int .i64 n2, .int .i64 n3, .string ⟨et.toArray⟩, .int .i64 n4] 56)).alloc (.cells #[.pointer none, .slice none 0 0] 116))) := below_alloc (below_alloc (Below.refl _ _) (Nat.le_refl _) _) (Nat.le_refl _) _
  have h9 := hG.nine
  clear hG
  go_enter Tryz.func41, Tryz.ntmps41
  go_wp2_with fail
  have HSZ : Hid (((w.alloc (.cells #[.int .i64 n1, .int .i64 n2, .int .i64 n3, .string ⟨et.toArray⟩, .int .i64 n4] 56)).alloc (.cells #[.pointer none, .slice none 0 0] 116)).heap.size = w.heap.size + 1 + 1) := by show _ = _; simp
  generalize ((w.alloc (.cells #[.int .i64 n1, .int .i64 n2, .int .i64 n3, .string ⟨et.toArray⟩, .int .i64 n4] 56)).alloc (.cells #[.pointer none, .slice none 0 0] 116)) = w0 at *
  have hw0 := W0.out.le
  have hba : Below w0.heap.size w0 (w0.alloc (.cells #[.string ⟨#[80]⟩] 9)) := below_alloc (Below.refl _ _) (Nat.le_refl _) _
  refine (wtext_any (w.heap.size + 2) (w.heap.size + 1) [] (.slice none 0 0) _ (W0.out.later hba) (G0.out.later hba) (by omega) [[80]] (w.heap.size + 1 + 1) (strs_one _ _ _ HSZ.out) (by omega) (by simp [Value.ownBlock]) (by simp [HSZ.out]) ?_).mono ?_
  · simp only [List.flatMap_cons, List.flatMap_nil, List.append_nil, List.nil_append]
    simp only [List.length_append] at hlen
    omega
  rintro e w1 ⟨rfl, v1, hw1, hr1⟩
  have R1 := Lib.hid (Wrote.ahead hba hr1)
  have W1 := Lib.hid hw1
  have G1 : Hid (Glob w1) := G0.out.under (by omega) (R1.out.below W0.out)
  clear hw1 hr1 hba
  have hs1 := R1.out.1.size
  have BX1 : Hid _ := box_cells BX.out R1.out (by omega) (by simp [Value.ownBlock])
  have p0 : w1.cell? ⟨w.heap.size, 0, none⟩ = some (.int .i64 n1) := cell_of_heap BX1.out
  have p1 : w1.cell? ⟨w.heap.size, 1, none⟩ = some (.int .i64 n2) := cell_of_heap BX1.out
  have p2 : w1.cell? ⟨w.heap.size, 2, none⟩ = some (.int .i64 n3) := cell_of_heap BX1.out
  go_wp2_with fail
  have hba : Below w1.heap.size w1 (w1.alloc (.cells #[.int .i64 n1, .int .i64 n2, .int .i64 n3] 3)) := below_alloc (Below.refl _ _) (Nat.le_refl _) _
  refine (wnumber_any (w.heap.size + 2) (w.heap.size + 1) _ v1 _ (W1.out.later hba) (G1.out.later hba) (by omega) [n1, n2, n3] (by simp; exact ⟨o1, o2, o3⟩) (some ⟨w1.heap.size, 0, none⟩) 3 (ints_lit w1 [n1, n2, n3] _ _ (by have := W1.out.lt; omega) (fun e => by have := (W1.out.own.lt _ e).2; omega)) ?_).mono ?_
  · simp only [List.flatMap_cons, List.flatMap_nil, List.append_nil, List.nil_append]
    simp only [List.flatMap_cons, List.flatMap_nil, List.append_nil, List.length_append] at hlen ⊢
    omega
  rintro e w2 ⟨rfl, v2, hw2, hr2⟩
  have R2 := Lib.hid (R1.out.trans (Wrote.ahead hba hr2))
  have W2 := Lib.hid hw2
  have G2 : Hid (Glob w2) := G0.out.under (by omega) (R2.out.below W0.out)
  clear hw2 hr2 hba p0 p1 p2
  have hs2 := R2.out.1.size
  have BX2 : Hid _ := box_cells BX.out R2.out (by omega) (by simp [Value.ownBlock])
  have p3 : w2.cell? ⟨w.heap.size, 3, none⟩ = some (.string ⟨et.toArray⟩) := cell_of_heap BX2.out
  go_wp2_with fail
  have hba : Below w2.heap.size w2 (w2.alloc (.cells #[.string ⟨et.toArray⟩] 9)) := below_alloc (Below.refl _ _) (Nat.le_refl _) _
  refine (wtext_any (w.heap.size + 2) (w.heap.size + 1) _ v2 _ (W2.out.later hba) (G2.out.later hba) (by omega) [et] w2.heap.size (strs_one _ _ _ rfl) (by have := W2.out.lt; omega) (fun e => by have := (W2.out.own.lt _ e).2; omega) (by simp) ?_).mono ?_
  · simp only [List.flatMap_cons, List.flatMap_nil, List.append_nil, List.nil_append]
    simp only [List.flatMap_cons, List.flatMap_nil, List.append_nil, List.length_append] at hlen ⊢
    omega
  rintro e w3 ⟨rfl, v3, hw3, hr3⟩
  have R3 := Lib.hid (R2.out.trans (Wrote.ahead hba hr3))
  have W3 := Lib.hid hw3
  have G3 : Hid (Glob w3) := G0.out.under (by omega) (R3.out.below W0.out)
  clear hw3 hr3 hba p3
  have hs3 := R3.out.1.size
  have BX3 : Hid _ := box_cells BX.out R3.out (by omega) (by simp [Value.ownBlock])
  have p4 : w3.cell? ⟨w.heap.size, 4, none⟩ = some (.int .i64 n4) := cell_of_heap BX3.out
  go_wp2_with fail
  have hba : Below w3.heap.size w3 (w3.alloc (.cells #[.int .i64 n4] 3)) := below_alloc (Below.refl _ _) (Nat.le_refl _) _
  refine (wnumber_any (w.heap.size + 2) (w.heap.size + 1) _ v3 _ (W3.out.later hba) (G3.out.later hba) (by omega) [n4] (by simp; exact o4) (some ⟨w3.heap.size, 0, none⟩) 1 (ints_lit w3 [n4] _ _ (by have := W3.out.lt; omega) (fun e => by have := (W3.out.own.lt _ e).2; omega)) ?_).mono ?_
  · simp only [List.flatMap_cons, List.flatMap_nil, List.append_nil, List.nil_append]
    simp only [List.flatMap_cons, List.flatMap_nil, List.append_nil, List.length_append] at hlen ⊢
    omega
  rintro e w4 ⟨rfl, v4, hw4, hr4⟩
  have R4 := Lib.hid (R3.out.trans (Wrote.ahead hba hr4))
  have W4 : Hid (WrAt w4 (w.heap.size + 2) (w.heap.size + 1) L v4) := by
    show WrAt _ _ _ _ _
    have e : L = [] ++ [[80]].flatMap fieldL ++ [n1, n2, n3].flatMap numL ++ [et].flatMap fieldL ++ [n4].flatMap numL := by rw [hlL.out]; simp
    rw [e]; exact hw4
  have G4 : Hid (Glob w4) := G0.out.under (by omega) (R4.out.below W0.out)
  have hs4 := R4.out.1.size
  clear hw4 hr4 hba p4
  have hne : Hid (L ≠ []) := by show L ≠ []; rw [hlL.out]; simp [fieldL]
  go_wp2_with fail
  refine Calls.mono (toldPart_any _ _ L v4 _ W4.out G4.out (by omega) hne.out hl) ?_
  rw [hoks.out]
  rintro e w5 ⟨rfl, hb5⟩
  have B5 : Hid (Below w.heap.size w w5) := (BW.out.trans ((R4.out.below W0.out).mono (by omega))).trans (hb5.mono (by omega))
  clear hb5
  cases ok
  all_goals
    go_wp2
    go_ret2
    exact ⟨rfl, B5.out⟩

end Go.Proofs.YtajmkkjlhmeolaaGreatDoor
