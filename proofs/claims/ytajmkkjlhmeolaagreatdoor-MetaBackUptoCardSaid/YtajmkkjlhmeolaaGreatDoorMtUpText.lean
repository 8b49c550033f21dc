/-
  meta.UploadText: the walk. (Printed by wip/gen/mtwr.py.)
-/
import Derived.Test.YtajmkkjlhmeolaaGreatDoorMtPartText
import Derived.Test.YtajmkkjlhmeolaaGreatDoorMtReadUp
import Derived.Test.YtajmkkjlhmeolaaGreatDoorMfUp
namespace Go.Proofs.YtajmkkjlhmeolaaGreatDoor
open Go.RowKit

theorem strs_lit (w : World) (ss : List (List UInt8)) (G : Nat) (h : w.heap.size = G) : StrsAt (w.alloc (.cells (ss.map fun s => Value.string ⟨s.toArray⟩).toArray 9)) G ss := fun j x hj =>
  cell_new _ _ _ _ _ _ h.symm (by simp [hj])
theorem bools_lit (w : World) (bs : List Bool) (G : Nat) (h : w.heap.size = G) : ∀ i x, bs[i]? = some x → (w.alloc (.cells (bs.map Value.bool).toArray 4)).cell? ⟨G, i, none⟩ = some (.bool x) := fun j x hj =>
  cell_new _ _ _ _ _ _ h.symm (by simp [hj])

set_option maxHeartbeats 2000000 in
set_option maxRecDepth 100000 in
theorem toldUp_any (base b : Nat) (l : List UInt8) (v : Value) (w : World) (h : WrAt w base b l v) (hG : ∀ W, Below base w W → GlobK W) (h0 : l ≠ []) (hl : l.length ≤ 140737488351232) :
    Calls Tryz.prog 74 #[.pointer (some ⟨b, 0, none⟩), .func (.func 28) #[] #[]] w (ToldOut l (readUpL l).isSome base w) := by
  have HST := Lib.hid (string_any base b l v w h h0)
  have HRD : Hid (∀ W, GlobK W → Calls Tryz.prog 28 #[.string ⟨l.toArray⟩] W fun e w' => ∃ (u1 : Int) (u2 u3 u4 u5 : List UInt8) (u6 : Int), e = .returned (.tuple #[.agg #[.int .i64 u1, .string ⟨u2.toArray⟩, .string ⟨u3.toArray⟩, .string ⟨u4.toArray⟩, .string ⟨u5.toArray⟩, .int .i64 u6, .slice none 0 0], .int .i64 (if (readUpL l).isSome then 0 else 59)]) ∧ Below W.heap.size W w') := fun W hW => by
    refine (readUp_any l W hW hl).mono ?_
    rintro e w' h
    cases hr : readUpL l with
    | none => rw [hr] at h; exact ⟨0, [], [], [], [], 0, h⟩
    | some p => rw [hr] at h; exact ⟨p.seq, p.bucket, p.key, p.type, p.owner, p.when_, h⟩
  obtain ⟨ok, hok⟩ : ∃ x, (readUpL l).isSome = x := ⟨_, rfl⟩
  rw [hok] at HRD ⊢
  have HG := Lib.hid hG
  have hle := h.le
  clear h hG hok
  go_enter Tryz.func74, Tryz.ntmps74
  go_wp2_with fail
  refine HST.out.mono ?_
  rintro e w1 ⟨rfl, hb1⟩
  have B1 := Lib.hid hb1
  have hs1 := hb1.size
  clear hb1
  go_wp2_with fail
  refine (HRD.out _ (HG.out _ B1.out)).mono ?_
  rintro e w2 ⟨u1, u2, u3, u4, u5, u6, rfl, hb2⟩
  have B2 := Lib.hid (B1.out.trans (hb2.mono (by omega)))
  have hs2 := hb2.size
  clear hb2
  have BF : Hid (Below base w ((w2.alloc (.cells upZero 52)).setRow w2.heap.size #[.int .i64 u1, .string ⟨u2.toArray⟩, .string ⟨u3.toArray⟩, .string ⟨u4.toArray⟩, .string ⟨u5.toArray⟩, .int .i64 u6, .slice none 0 0])) := below_one_row _ _ _ _ _ (B2.out.alloc (by omega) _) (by omega)
  cases ok
  all_goals
    go_wp2_with (refine wpList_store_row (by rfl) 52 _ _ (by rfl) w2.heap.size #[.int .i64 u1, .string ⟨u2.toArray⟩, .string ⟨u3.toArray⟩, .string ⟨u4.toArray⟩, .string ⟨u5.toArray⟩, .int .i64 u6, .slice none 0 0] (by rfl) (by rfl) 52 upZero (by exact heap_alloc_new _ _) (by kernel_rfl) (by kernel_rfl) (by kernel_rfl) ?_)
    go_ret2
    exact ⟨rfl, BF.out⟩

theorem upL_eq (u1 : Int) (u2 u3 u4 u5 : List UInt8) (u6 : Int) : upL ⟨u1, u2, u3, u4, u5, u6⟩ = fieldL [85] ++ numL u1 ++ (fieldL u2 ++ (fieldL u3 ++ (fieldL u4 ++ fieldL u5))) ++ numL u6 := by
  simp [upL]

set_option maxHeartbeats 4000000 in
set_option maxRecDepth 100000 in
theorem upText_any (p : UpV) (pv : Value) (w : World) (hG : GlobK w) (hok : IntOK p.seq ∧ IntOK p.when_) (hl : (upL p).length ≤ 140737488351232) :
    Calls Tryz.prog 40 #[.agg (p.cellsP pv)] w (ToldOut (upL p) (readUpL (upL p)).isSome w.heap.size w) := by
  obtain ⟨u1, u2, u3, u4, u5, u6⟩ := p
  obtain ⟨o1, o6⟩ := hok
  simp only at o1 o6
  have hlL : Hid (upL ⟨u1, u2, u3, u4, u5, u6⟩ = _) := upL_eq u1 u2 u3 u4 u5 u6
  obtain ⟨L, hL⟩ : ∃ L, Hid (upL ⟨u1, u2, u3, u4, u5, u6⟩ = L) := ⟨_, rfl⟩
  rw [hL.out] at hlL hl ⊢
  obtain ⟨ok, hoks⟩ : ∃ o, Hid ((readUpL L).isSome = o) := ⟨_, rfl⟩
  rw [hoks.out]
  have hlen := hl
  rw [hlL.out] at hlen
  simp only [UpV.cellsP]
  have W0 : Hid (WrAt ((w.alloc (.cells #[.int .i64 u1, .string ⟨u2.toArray⟩, .string ⟨u3.toArray⟩, .string ⟨u4.toArray⟩, .string ⟨u5.toArray⟩, .int .i64 u6, pv] 52)).alloc (.cells #[.pointer none, .slice none 0 0] 116)) (w.heap.size + 2) (w.heap.size + 1) [] (.slice none 0 0)) := by
    have := WrAt.new (w.alloc (.cells #[.int .i64 u1, .string ⟨u2.toArray⟩, .string ⟨u3.toArray⟩, .string ⟨u4.toArray⟩, .string ⟨u5.toArray⟩, .int .i64 u6, pv] 52)) (w.heap.size + 2) (by simp)
    show WrAt _ _ _ _ _
    simpa using this
  have HG0 : Hid (∀ W, Below w.heap.size w W → GlobK W) := fun W hW => hG.later hW
  have G0 : Hid (GlobK ((w.alloc (.cells #[.int .i64 u1, .string ⟨u2.toArray⟩, .string ⟨u3.toArray⟩, .string ⟨u4.toArray⟩, .string ⟨u5.toArray⟩, .int .i64 u6, pv] 52)).alloc (.cells #[.pointer none, .slice none 0 0] 116))) := hG.later (below_alloc (below_alloc (Below.refl _ _) (Nat.le_refl _) _) (Nat.le_refl _) _)
  have BX : Hid (((w.alloc (.cells #[.int .i64 u1, .string ⟨u2.toArray⟩, .string ⟨u3.toArray⟩, .string ⟨u4.toArray⟩, .string ⟨u5.toArray⟩, .int .i64 u6, pv] 52)).alloc (.cells #[.pointer none, .slice none 0 0] 116)).heap[w.heap.size]? = some (.cells #[.int .i64 u1, .string ⟨u2.toArray⟩, .string ⟨u3.toArray⟩, .string ⟨u4.toArray⟩, .string ⟨u5.toArray⟩, .int .i64 u6, pv] 52 (0, 0))) :=
    (Below.heap_alloc _ _ _ (by simp)).trans (heap_alloc_new _ _)
  have BW : Hid (Below w.heap.size w ((w.alloc (.cells #[.int .i64 u1, .string ⟨u2.toArray⟩, .string ⟨u3.toArray⟩, .string ⟨u4.toArray⟩, .string ⟨u5.toArray⟩, .int .i64 u6, pv] 52)).alloc (.cells #[.pointer none, .slice none 0 0] 116))) := below_alloc (below_alloc (Below.refl _ _) (Nat.le_refl _) _) (Nat.le_refl _) _
  have h9 := hG.g.nine
  clear hG
  go_enter Tryz.func40, Tryz.ntmps40
  go_wp2_with fail
  have HSZ : Hid (((w.alloc (.cells #[.int .i64 u1, .string ⟨u2.toArray⟩, .string ⟨u3.toArray⟩, .string ⟨u4.toArray⟩, .string ⟨u5.toArray⟩, .int .i64 u6, pv] 52)).alloc (.cells #[.pointer none, .slice none 0 0] 116)).heap.size = w.heap.size + 1 + 1) := by show _ = _; simp
  generalize ((w.alloc (.cells #[.int .i64 u1, .string ⟨u2.toArray⟩, .string ⟨u3.toArray⟩, .string ⟨u4.toArray⟩, .string ⟨u5.toArray⟩, .int .i64 u6, pv] 52)).alloc (.cells #[.pointer none, .slice none 0 0] 116)) = w0 at *
  have hw0 := W0.out.le
  have hs0 : w.heap.size + 2 ≤ w0.heap.size := by have := HSZ.out; omega
  have hba : Below w0.heap.size w0 (w0.alloc (.cells #[.string ⟨[85].toArray⟩] 9)) := below_alloc (Below.refl _ _) (Nat.le_refl _) _
  refine (wtext_any (w.heap.size + 2) (w.heap.size + 1) _ (.slice none 0 0) _ (W0.out.later hba) (G0.out.g.later hba) (by omega) [[85]] (w.heap.size + 1 + 1) (strs_lit _ [[85]] _ HSZ.out) (by omega) (by simp [Value.ownBlock]) (by simp [HSZ.out]) ?_).mono ?_
  · simp only [List.flatMap_cons, List.flatMap_nil, List.append_nil, List.nil_append, List.map_cons, List.map_nil]
    simp only [List.flatMap_cons, List.flatMap_nil, List.append_nil, List.length_append, List.map_cons, List.map_nil] at hlen ⊢
    omega
  rintro e w1 ⟨rfl, v1, hw, hr⟩
  have R1 := Lib.hid (Wrote.ahead hba hr)
  have W1 := Lib.hid hw
  have G1 : Hid (GlobK w1) := HG0.out _ (BW.out.trans ((R1.out.below W0.out).mono (by omega)))
  clear hw hr hba
  have hs1 := R1.out.1.size
  have BX1 : Hid _ := box_cells BX.out R1.out (by omega) (by simp [Value.ownBlock])
  have p0 : w1.cell? ⟨w.heap.size, 0, none⟩ = some (.int .i64 u1) := cell_of_heap BX1.out
  go_wp2_with fail
  have hba : Below w1.heap.size w1 (w1.alloc (.cells #[.int .i64 u1] 3)) := below_alloc (Below.refl _ _) (Nat.le_refl _) _
  refine (wnumber_any (w.heap.size + 2) (w.heap.size + 1) _ v1 _ (W1.out.later hba) (G1.out.g.later hba) (by omega) [u1] (by intro n hn; simp only [List.mem_cons, List.not_mem_nil, or_false] at hn; rcases hn with rfl <;> assumption) (some ⟨w1.heap.size, 0, none⟩) 1 (ints_lit w1 [u1] _ _ (by have := W1.out.lt; omega) (fun e => by have := (W1.out.own.lt _ e).2; omega)) ?_).mono ?_
  · simp only [List.flatMap_cons, List.flatMap_nil, List.append_nil, List.nil_append, List.map_cons, List.map_nil]
    simp only [List.flatMap_cons, List.flatMap_nil, List.append_nil, List.length_append, List.map_cons, List.map_nil] at hlen ⊢
    omega
  rintro e w2 ⟨rfl, v2, hw, hr⟩
  have R2 := Lib.hid (R1.out.trans (Wrote.ahead hba hr))
  have W2 := Lib.hid hw
  have G2 : Hid (GlobK w2) := HG0.out _ (BW.out.trans ((R2.out.below W0.out).mono (by omega)))
  clear hw hr hba p0
  have hs2 := R2.out.1.size
  have BX2 : Hid _ := box_cells BX.out R2.out (by omega) (by simp [Value.ownBlock])
  have p1 : w2.cell? ⟨w.heap.size, 1, none⟩ = some (.string ⟨u2.toArray⟩) := cell_of_heap BX2.out
  have p2 : w2.cell? ⟨w.heap.size, 2, none⟩ = some (.string ⟨u3.toArray⟩) := cell_of_heap BX2.out
  have p3 : w2.cell? ⟨w.heap.size, 3, none⟩ = some (.string ⟨u4.toArray⟩) := cell_of_heap BX2.out
  have p4 : w2.cell? ⟨w.heap.size, 4, none⟩ = some (.string ⟨u5.toArray⟩) := cell_of_heap BX2.out
  go_wp2_with fail
  have hba : Below w2.heap.size w2 (w2.alloc (.cells #[.string ⟨u2.toArray⟩, .string ⟨u3.toArray⟩, .string ⟨u4.toArray⟩, .string ⟨u5.toArray⟩] 9)) := below_alloc (Below.refl _ _) (Nat.le_refl _) _
  refine (wtext_any (w.heap.size + 2) (w.heap.size + 1) _ v2 _ (W2.out.later hba) (G2.out.g.later hba) (by omega) [u2, u3, u4, u5] w2.heap.size (strs_lit _ [u2, u3, u4, u5] _ rfl) (by have := W2.out.lt; omega) (fun e => by have := (W2.out.own.lt _ e).2; omega) (by simp) ?_).mono ?_
  · simp only [List.flatMap_cons, List.flatMap_nil, List.append_nil, List.nil_append, List.map_cons, List.map_nil]
    simp only [List.flatMap_cons, List.flatMap_nil, List.append_nil, List.length_append, List.map_cons, List.map_nil] at hlen ⊢
    omega
  rintro e w3 ⟨rfl, v3, hw, hr⟩
  have R3 := Lib.hid (R2.out.trans (Wrote.ahead hba hr))
  have W3 := Lib.hid hw
  have G3 : Hid (GlobK w3) := HG0.out _ (BW.out.trans ((R3.out.below W0.out).mono (by omega)))
  clear hw hr hba p1 p2 p3 p4
  have hs3 := R3.out.1.size
  have BX3 : Hid _ := box_cells BX.out R3.out (by omega) (by simp [Value.ownBlock])
  have p5 : w3.cell? ⟨w.heap.size, 5, none⟩ = some (.int .i64 u6) := cell_of_heap BX3.out
  go_wp2_with fail
  have hba : Below w3.heap.size w3 (w3.alloc (.cells #[.int .i64 u6] 3)) := below_alloc (Below.refl _ _) (Nat.le_refl _) _
  refine (wnumber_any (w.heap.size + 2) (w.heap.size + 1) _ v3 _ (W3.out.later hba) (G3.out.g.later hba) (by omega) [u6] (by intro n hn; simp only [List.mem_cons, List.not_mem_nil, or_false] at hn; rcases hn with rfl <;> assumption) (some ⟨w3.heap.size, 0, none⟩) 1 (ints_lit w3 [u6] _ _ (by have := W3.out.lt; omega) (fun e => by have := (W3.out.own.lt _ e).2; omega)) ?_).mono ?_
  · simp only [List.flatMap_cons, List.flatMap_nil, List.append_nil, List.nil_append, List.map_cons, List.map_nil]
    simp only [List.flatMap_cons, List.flatMap_nil, List.append_nil, List.length_append, List.map_cons, List.map_nil] at hlen ⊢
    omega
  rintro e w4 ⟨rfl, v4, hw, hr⟩
  have R4 := Lib.hid (R3.out.trans (Wrote.ahead hba hr))
  have W4 := Lib.hid hw
  have G4 : Hid (GlobK w4) := HG0.out _ (BW.out.trans ((R4.out.below W0.out).mono (by omega)))
  clear hw hr hba p5
  have hs4 := R4.out.1.size
  have BX4 : Hid _ := box_cells BX.out R4.out (by omega) (by simp [Value.ownBlock])
  have HWL : Hid (WrAt w4 (w.heap.size + 2) (w.heap.size + 1) L v4) := by
    show WrAt _ _ _ _ _
    have e : L = [] ++ [[85]].flatMap fieldL ++ [u1].flatMap numL ++ [u2, u3, u4, u5].flatMap fieldL ++ [u6].flatMap numL := by rw [hlL.out]; simp
    rw [e]; exact W4.out
  have hne : Hid (L ≠ []) := by show L ≠ []; rw [hlL.out]; simp [fieldL]
  go_wp2_with fail
  have HTG : Hid (∀ W, Below (w.heap.size + 2) w4 W → GlobK W) := fun W hW => HG0.out _ ((BW.out.trans ((R4.out.below W0.out).mono (by omega))).trans (hW.mono (by omega)))
  refine Calls.mono (toldUp_any _ _ L v4 _ HWL.out HTG.out hne.out hl) ?_
  rw [hoks.out]
  rintro e wz ⟨rfl, hbz⟩
  have BZ : Hid (Below w.heap.size w wz) := (BW.out.trans ((R4.out.below W0.out).mono (by omega))).trans (hbz.mono (by omega))
  clear hbz
  cases ok
  all_goals
    go_wp2
    go_ret2
    exact ⟨rfl, BZ.out⟩

end Go.Proofs.YtajmkkjlhmeolaaGreatDoor
