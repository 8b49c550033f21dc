/-
  WIRE: a request is complete. (Printed by wip/gen/wicomplete.py.)
-/
import Derived.Test.YtdilmefeofdkmaaGreatDoorSm6
import Derived.Test.YtdilmefeofdkmaaGreatDoorSm2
namespace Go.Proofs.YtdilmefeofdkmaaGreatDoor
open Go.RowKit

theorem info_req : ∃ i z, Tryz.prog.info? 31 = some i ∧ i.zero = some z ∧ i.size = 6 ∧ i.bytes = 88 ∧ z.cells.size = 6 := by
  obtain ⟨i, h1, h2, h3, h4⟩ := info_parts (show (Tryz.prog.info? 31).map (fun i => (i.zero, i.size, i.bytes)) = some (some (.agg #[.string ⟨#[]⟩, .string ⟨#[]⟩, .int .i64 0, .slice none 0 0, .string ⟨#[]⟩, .bool false]), 6, 88) by kernel_rfl)
  exact ⟨i, _, h1, h2, h3, h4, rfl⟩

set_option maxHeartbeats 4000000 in
set_option maxRecDepth 100000 in
theorem complete_any {w : World} {rd : Nat} {ms : Own} {s : RS} {out : List ReqV} (h : RdrAt w rd ms s out) (hl : s.fields.length ≤ 1000000) (ho : out.length ≤ 1000000000) (hsh : ∀ f ∈ s.fields, f.2.length ≤ 140737488351232) :
    Calls Tryz.prog 115 #[.pointer (some ⟨rd, 0, none⟩)] w fun x w' => x = .returned (.tuple #[]) ∧ RdPost w rd ms s.complete.1 (out ++ s.complete.2) w' := by
  obtain ⟨i0, hi, hz0, hz1, hz2⟩ : ∃ i, Tryz.prog.info? 31 = some i ∧ i.zero = some (.agg #[.string ⟨#[]⟩, .string ⟨#[]⟩, .int .i64 0, .slice none 0 0, .string ⟨#[]⟩, .bool false]) ∧ i.size = 6 ∧ i.bytes = 88 :=
    info_parts (show (Tryz.prog.info? 31).map (fun i => (i.zero, i.size, i.bytes)) = some (some (.agg #[.string ⟨#[]⟩, .string ⟨#[]⟩, .int .i64 0, .slice none 0 0, .string ⟨#[]⟩, .bool false]), 6, 88) by kernel_rfl)
  obtain ⟨vo, vl, vf, vb, hI⟩ := h
  obtain ⟨ao, co, rfl⟩ : ∃ a c, vo = .slice a out.length c := by
    obtain ⟨xs, ok, h1, _⟩ := hI.outs
    exact row_form h1
  obtain ⟨af, cf, rfl⟩ := row_form hI.flds
  obtain ⟨ab, cb, rfl⟩ := row_form hI.body
  have K0 := Lib.hid hI
  have hlt := hI.lt
  have r8 : w.cell? ⟨rd, 8, none⟩ = some (.string ⟨s.meth.toArray⟩) := cell_of_heap hI.box
  have r9 : w.cell? ⟨rd, 9, none⟩ = some (.string ⟨s.target.toArray⟩) := cell_of_heap hI.box
  have r10 : w.cell? ⟨rd, 10, none⟩ = some (.int .i64 s.minor) := cell_of_heap hI.box
  have r11 : w.cell? ⟨rd, 11, none⟩ = some (Value.slice af s.fields.length cf) := cell_of_heap hI.box
  have r12 : w.cell? ⟨rd, 12, none⟩ = some (.string ⟨#[]⟩) := cell_of_heap hI.box
  have r13 : w.cell? ⟨rd, 13, none⟩ = some (.bool false) := cell_of_heap hI.box
  have r14 : w.cell? ⟨rd, 14, none⟩ = some (Value.slice ab s.body.length cb) := cell_of_heap hI.box
  have hcv := conv_row ((hI.body.alloc (.cells #[.pointer (some ⟨rd, 0, none⟩)] 33)).alloc (.cells #[.string ⟨s.meth.toArray⟩, .string ⟨s.target.toArray⟩, .int .i64 s.minor, (Value.slice af s.fields.length cf), .string ⟨#[]⟩, .bool false] 31))
  obtain ⟨w1, hw1⟩ : ∃ w1, (((w.alloc (.cells #[.pointer (some ⟨rd, 0, none⟩)] 33)).alloc (.cells #[.string ⟨s.meth.toArray⟩, .string ⟨s.target.toArray⟩, .int .i64 s.minor, (Value.slice af s.fields.length cf), .string ⟨#[]⟩, .bool false] 31)).setCell ⟨w.heap.size + 1, 4, none⟩ (.string ⟨s.body.toArray⟩)) = w1 := ⟨_, rfl⟩
  have hb1 : Below w.heap.size w w1 := by
    rw [← hw1]
    exact (below_alloc (below_alloc (Below.refl _ _) (Nat.le_refl _) _) (Nat.le_refl _) _).setCell (by simp) _
  have hx1 : w1.heap[w.heap.size + 1]? = some (.cells #[.string ⟨s.meth.toArray⟩, .string ⟨s.target.toArray⟩, .int .i64 s.minor, (Value.slice af s.fields.length cf), .string ⟨s.body.toArray⟩, .bool false] 31 (0, 0)) := by
    rw [← hw1, heap_set (heap_at1 _ _ _)]; rfl
  have hx0 : w1.cell? ⟨w.heap.size, 0, none⟩ = some (.pointer (some ⟨rd, 0, none⟩)) := by
    rw [← hw1, World.cell?_setCell_far _ _ _ _ (by simp)]
    exact cell_past _ (cell_new _ _ _ _ _ _ rfl rfl)
  have K1 := Lib.hid (hI.later hb1)
  have HSAY : Hid (∀ word, Calls Tryz.prog 135 #[.string ⟨word.toArray⟩, .pointer (some ⟨w.heap.size, 0, none⟩)] w1 fun e w' => e = .returned (.bool ((valuesL connL s.fields).any fun v => smallL v == word)) ∧ Below w1.heap.size w1 w') := fun word =>
    says_any rd w.heap.size _ s.fields word w1 hx0 (cell_later hb1 r11) K1.out.flds hl hsh
  have k2 : w1.cell? ⟨w.heap.size + 1, 2, none⟩ = some (.int .i64 s.minor) := cell_of_heap hx1
  have B1 := Lib.hid hb1
  have X0 := Lib.hid hx0
  have X1 := Lib.hid hx1
  clear hI hb1 hx0 hx1 hsh
  obtain ⟨cl, hcl⟩ : ∃ x, s.closes = x := ⟨_, rfl⟩
  have HCL : Hid (s.complete = ({ s.begin with done := cl }, [⟨s.meth, s.target, s.minor, s.fields, s.body, cl⟩])) := by show _ = _; unfold RS.complete RS.req; rw [hcl]
  rw [HCL.out]
  go_enter Tryz.func115, Tryz.ntmps115
  by_cases hm : s.minor = 1
  · have hclv : ((valuesL connL s.fields).any fun v => smallL v == closeL) = cl := by rw [← hcl]; unfold RS.closes; rw [if_pos hm]
    have HS2 := Lib.hid (HSAY.out closeL)
    rw [hclv] at HS2
    have hmb : (s.minor == 1) = true := by simpa using hm
    clear hm hclv HSAY hcl
    go_wp2_with fail
    refine HS2.out.mono ?_
    rintro e w2 ⟨rfl, hb2⟩
    have hx2 : w2.heap[w.heap.size + 1]? = some (.cells #[.string ⟨s.meth.toArray⟩, .string ⟨s.target.toArray⟩, .int .i64 s.minor, (Value.slice af s.fields.length cf), .string ⟨s.body.toArray⟩, .bool false] 31 (0, 0)) := (hb2.block _ (Array.getElem?_eq_some_iff.1 X1.out).1).trans X1.out
    have k5 : w2.cell? ⟨w.heap.size + 1, 5, none⟩ = some (.bool false) := cell_of_heap hx2
    have f5 : w2.frozen? ⟨w.heap.size + 1, 5, none⟩ = false := free_of_heap hx2
    have k0 := cell_later hb2 X0.out
    have K2 := Lib.hid (K1.out.later hb2)
    have X2 := Lib.hid hx2
    have HW := Lib.hid (B1.out.trans (hb2.mono B1.out.size))
    clear hb2 hx2
    go_wp2_with fail
    have hx3 : (w2.setCell ⟨w.heap.size + 1, 5, none⟩ (.bool cl)).heap[w.heap.size + 1]? = some (.cells #[.string ⟨s.meth.toArray⟩, .string ⟨s.target.toArray⟩, .int .i64 s.minor, (Value.slice af s.fields.length cf), .string ⟨s.body.toArray⟩, .bool cl] 31 (0, 0)) := by rw [heap_set X2.out]; rfl
    have q3 : (w2.setCell ⟨w.heap.size + 1, 5, none⟩ (.bool cl)).cell? ⟨w.heap.size, 0, none⟩ = some (.pointer (some ⟨rd, 0, none⟩)) := (World.cell?_setCell_far _ _ _ _ (by simp)).trans k0
    have HW3 : Below w.heap.size w (w2.setCell ⟨w.heap.size + 1, 5, none⟩ (.bool cl)) := HW.out.setCell (by simp) _
    have K3 := Lib.hid (K0.out.later HW3)
    have M3 := Lib.hid (Mv.of_below (m := ms) HW3)
    clear k5 f5 k0 HW3 X2 HW K2
    generalize (w2.setCell ⟨w.heap.size + 1, 5, none⟩ (.bool cl)) = w3 at hx3 q3 K3 M3 ⊢
    have X3 := Lib.hid hx3
    clear hx3 K1 X0 X1 B1 hw1 hcv k2 r8 r9 r10 r11 r12 r13 r14
    refine wp_region_held_drew (S := (fun W : World => W.cell? ⟨w.heap.size, 0, none⟩ = some (.pointer (some ⟨rd, 0, none⟩)) ∧ W.heap[w.heap.size + 1]? = some (.cells #[.string ⟨s.meth.toArray⟩, .string ⟨s.target.toArray⟩, .int .i64 s.minor, (Value.slice af s.fields.length cf), .string ⟨s.body.toArray⟩, .bool cl] 31 (0, 0)))) (by kernel_rfl) ⟨q3, X3.out⟩ (fun hS0 => ?_)
    have K3 := Lib.hid (K3.out.later (Below.drew (Below.refl _ _)))
    have M3 := Lib.hid (M3.out.later (Below.drew (Below.refl _ _)))
    clear X3 q3
    generalize w3.drew = w3 at K3 M3 hS0 ⊢
    refine wpAnyH_take (i := 0) (oi := { dst := some 25, op := _, type := _, pos := _, after := _, guard := _ }) (v := ?_) rfl (by kernel_rfl) (by kernel_rfl) (by kernel_rfl) (fun _ _ _ h => h) (Or.inl ⟨by kernel_rfl, ?_⟩) (by assumption) ?_
    rotate_left
    · (intro w hSw; (try dsimp only at hSw); (obtain ⟨h1, h2⟩ := hSw); (have k0 := cell_of_heap (x := 0) h2); (have k1 := cell_of_heap (x := 1) h2); (have k2 := cell_of_heap (x := 2) h2); (have k3 := cell_of_heap (x := 3) h2); (have k4 := cell_of_heap (x := 4) h2); (have k5 := cell_of_heap (x := 5) h2); go_simp); all_goals (with_reducible rfl)
    try simp only [Act.put, List.setIfInBounds_toArray, List.set_cons_zero, List.set_cons_succ]
    refine wpAnyH_take (i := 1) (oi := { dst := some 26, op := _, type := _, pos := _, after := _, guard := _ }) (v := ?_) rfl (by kernel_rfl) (by kernel_rfl) (by kernel_rfl) (fun _ _ _ h => h) (Or.inl ⟨by kernel_rfl, ?_⟩) (by assumption) ?_
    rotate_left
    · (intro w hSw; (try dsimp only at hSw); (obtain ⟨h1, h2⟩ := hSw); (have k0 := cell_of_heap (x := 0) h2); (have k1 := cell_of_heap (x := 1) h2); (have k2 := cell_of_heap (x := 2) h2); (have k3 := cell_of_heap (x := 3) h2); (have k4 := cell_of_heap (x := 4) h2); (have k5 := cell_of_heap (x := 5) h2); go_simp); all_goals (with_reducible rfl)
    try simp only [Act.put, List.setIfInBounds_toArray, List.set_cons_zero, List.set_cons_succ]
    refine wpAnyH_take (i := 2) (oi := { dst := some 27, op := _, type := _, pos := _, after := _, guard := _ }) (v := ?_) rfl (by kernel_rfl) (by kernel_rfl) (by kernel_rfl) (fun _ _ _ h => h) (Or.inl ⟨by kernel_rfl, ?_⟩) (by assumption) ?_
    rotate_left
    · (intro w hSw; (try dsimp only at hSw); go_simp); all_goals (with_reducible rfl)
    try simp only [Act.put, List.setIfInBounds_toArray, List.set_cons_zero, List.set_cons_succ]
    refine wpAnyH_take (i := 3) (oi := { dst := some 28, op := _, type := _, pos := _, after := _, guard := _ }) (v := ?_) rfl (by kernel_rfl) (by kernel_rfl) (by kernel_rfl) (fun _ _ _ h => h) (Or.inl ⟨by kernel_rfl, ?_⟩) (by assumption) ?_
    rotate_left
    · (intro w hSw; (try dsimp only at hSw); go_simp); all_goals (with_reducible rfl)
    try simp only [Act.put, List.setIfInBounds_toArray, List.set_cons_zero, List.set_cons_succ]
    refine wpAnyH_take (i := 5) (oi := { dst := some 30, op := _, type := _, pos := _, after := _, guard := _ }) (v := ?_) rfl (by kernel_rfl) (by kernel_rfl) (by kernel_rfl) (fun _ _ _ h => h) (Or.inl ⟨by kernel_rfl, ?_⟩) (by assumption) ?_
    rotate_left
    · (intro w hSw; (try dsimp only at hSw); (obtain ⟨h1, h2⟩ := hSw); (have k0 := cell_of_heap (x := 0) h2); (have k1 := cell_of_heap (x := 1) h2); (have k2 := cell_of_heap (x := 2) h2); (have k3 := cell_of_heap (x := 3) h2); (have k4 := cell_of_heap (x := 4) h2); (have k5 := cell_of_heap (x := 5) h2); go_simp); all_goals (with_reducible rfl)
    try simp only [Act.put, List.setIfInBounds_toArray, List.set_cons_zero, List.set_cons_succ]
    refine wpAnyH_ready (rs := [4, 6]) (by kernel_rfl) (by simp) ?_
    refine (AllReadyH.cons (o := { dst := some 29, op := _, type := _, pos := _, after := _, guard := _ }) rfl (fun K hK => ?_) (AllReadyH.cons (o := { dst := some 31, op := _, type := _, pos := _, after := _, guard := _ }) rfl (fun K hK => ?_) AllReadyH.nil))
    · rw [if_pos (by kernel_rfl)]
      have c3 : w3.cell? ⟨rd, 3, none⟩ = some (Value.slice ao out.length co) := cell_of_heap K3.out.box
      go_wp2_with fail
      clear c3
      refine hK.out _ _ (by assumption) (fun _ => ?_)
      clear hK K
      try simp only [Act.put, List.setIfInBounds_toArray, List.set_cons_zero, List.set_cons_succ]
      refine wpAnyH_ready (rs := [6]) (by kernel_rfl) (by simp) ?_
      refine (AllReadyH.cons (o := { dst := some 31, op := _, type := _, pos := _, after := _, guard := _ }) rfl (fun K hK => ?_) AllReadyH.nil)
      rw [if_pos (by kernel_rfl)]
      have hSz : (fun W : World => W.cell? ⟨w.heap.size, 0, none⟩ = some (.pointer (some ⟨rd, 0, none⟩)) ∧ W.heap[w.heap.size + 1]? = some (.cells #[.string ⟨s.meth.toArray⟩, .string ⟨s.target.toArray⟩, .int .i64 s.minor, (Value.slice af s.fields.length cf), .string ⟨s.body.toArray⟩, .bool cl] 31 (0, 0))) w3 := by assumption
      go_wp2_with fail
      have hSx : (fun W : World => W.cell? ⟨w.heap.size, 0, none⟩ = some (.pointer (some ⟨rd, 0, none⟩)) ∧ W.heap[w.heap.size + 1]? = some (.cells #[.string ⟨s.meth.toArray⟩, .string ⟨s.target.toArray⟩, .int .i64 s.minor, (Value.slice af s.fields.length cf), .string ⟨s.body.toArray⟩, .bool cl] 31 (0, 0))) (w3.alloc (.cells #[.string ⟨s.meth.toArray⟩, .string ⟨s.target.toArray⟩, .int .i64 s.minor, (Value.slice af s.fields.length cf), .string ⟨s.body.toArray⟩, .bool cl] 31)) := ⟨cell_past _ hSz.1, (Below.heap_alloc _ _ _ (Array.getElem?_eq_some_iff.1 hSz.2).1).trans hSz.2⟩
      have K4 := Lib.hid (K3.out.later (below_alloc (Below.refl _ _) (Nat.le_refl _) (.cells #[.string ⟨s.meth.toArray⟩, .string ⟨s.target.toArray⟩, .int .i64 s.minor, (Value.slice af s.fields.length cf), .string ⟨s.body.toArray⟩, .bool cl] 31)))
      have M4 := Lib.hid (M3.out.later (below_alloc (Below.refl _ _) (Nat.le_refl _) (.cells #[.string ⟨s.meth.toArray⟩, .string ⟨s.target.toArray⟩, .int .i64 s.minor, (Value.slice af s.fields.length cf), .string ⟨s.body.toArray⟩, .bool cl] 31)))
      have L4 : Hid ((w3.alloc (.cells #[.string ⟨s.meth.toArray⟩, .string ⟨s.target.toArray⟩, .int .i64 s.minor, (Value.slice af s.fields.length cf), .string ⟨s.body.toArray⟩, .bool cl] 31)).heap[w3.heap.size]? = some (.cells #[.string ⟨s.meth.toArray⟩, .string ⟨s.target.toArray⟩, .int .i64 s.minor, (Value.slice af s.fields.length cf), .string ⟨s.body.toArray⟩, .bool cl] 31 (0, 0))) := heap_alloc_new w3 _
      refine hK.out _ (w3.alloc (.cells #[.string ⟨s.meth.toArray⟩, .string ⟨s.target.toArray⟩, .int .i64 s.minor, (Value.slice af s.fields.length cf), .string ⟨s.body.toArray⟩, .bool cl] 31)) hSx (fun hSy => ?_)
      clear hSx hSz
      generalize w3.alloc (.cells #[.string ⟨s.meth.toArray⟩, .string ⟨s.target.toArray⟩, .int .i64 s.minor, (Value.slice af s.fields.length cf), .string ⟨s.body.toArray⟩, .bool cl] 31) = w4 at K4 M4 L4 hSy ⊢
      generalize w3.heap.size = gl at L4 ⊢
      clear K3 M3
      clear hK K
      try simp only [Act.put, List.setIfInBounds_toArray, List.set_cons_zero, List.set_cons_succ]
      refine wpAnyH_ready (rs := [7]) (by kernel_rfl) (by simp) ?_
      refine (AllReadyH.cons (o := { dst := some 32, op := _, type := _, pos := _, after := _, guard := _ }) rfl (fun K hK => ?_) AllReadyH.nil)
      rw [if_pos (by kernel_rfl)]
      have hSz : (fun W : World => W.cell? ⟨w.heap.size, 0, none⟩ = some (.pointer (some ⟨rd, 0, none⟩)) ∧ W.heap[w.heap.size + 1]? = some (.cells #[.string ⟨s.meth.toArray⟩, .string ⟨s.target.toArray⟩, .int .i64 s.minor, (Value.slice af s.fields.length cf), .string ⟨s.body.toArray⟩, .bool cl] 31 (0, 0))) w4 := by assumption
      obtain ⟨xs, ok, h1, h2, h3⟩ := K4.out.outs
      refine wp_append_lies _ _ _ _ (by rfl) 0 31 i0 _ 6 88 Tryz.underlying24 hi hz0 hz1 hz2 rfl (by decide) (Value.slice ao out.length co) out.length xs (by rfl) h1 ⟨gl, 0, none⟩ 1 1 (#[.string ⟨s.meth.toArray⟩, .string ⟨s.target.toArray⟩, .int .i64 s.minor, (Value.slice af s.fields.length cf), .string ⟨s.body.toArray⟩, .bool cl]).toList (by rfl) (by rfl) (fun j u hj => by rw [Addr.add_lit, cell_of_heap L4.out]; simpa using hj) (by simp [Value.oneCell']) (by decide) (by simp only [maxLen]; omega) (by omega) (Nat.zero_le _) _ rfl ?_
      intro g cap w5 hown hgr hat hlt2
      have hbx := K4.out.past K4.out.oO hgr
      have hP := K4.out.pushOut (body := s.body) (cl := cl) h2 h3 hown rfl hgr hat hlt2
      have HP := Lib.hid hP.1
      have HM := Lib.hid (M4.out.trans hP.2)
      have hne : (Value.slice ao out.length co).ownBlock ≠ some (w.heap.size + 1) := fun e => by have := (K0.out.low _ (K0.out.oO _ e).1).2; omega
      have hne0 : (Value.slice ao out.length co).ownBlock ≠ some w.heap.size := fun e => by have := (K0.out.low _ (K0.out.oO _ e).1).2; omega
      have hSx : (fun W : World => W.cell? ⟨w.heap.size, 0, none⟩ = some (.pointer (some ⟨rd, 0, none⟩)) ∧ W.heap[w.heap.size + 1]? = some (.cells #[.string ⟨s.meth.toArray⟩, .string ⟨s.target.toArray⟩, .int .i64 s.minor, (Value.slice af s.fields.length cf), .string ⟨s.body.toArray⟩, .bool cl] 31 (0, 0))) w5 := ⟨(World.cell?_of_block (hgr.block _ (World.block_lt_of_cell? _ _ hSz.1) (fun e => hne0 e.symm))).trans hSz.1, (hgr.block _ (Array.getElem?_eq_some_iff.1 hSz.2).1 (fun e => hne e.symm)).trans hSz.2⟩
      have hgs : g ≠ w.heap.size ∧ g ≠ w.heap.size + 1 := by
        have h5 := (Array.getElem?_eq_some_iff.1 hSz.2).1
        rcases hat with e | e
        · have := (K0.out.low _ (K0.out.oO _ e).1).2; omega
        · omega
      clear hP hown hgr hat h1 h2 h3 hne hne0 hSz
      refine hK.out _ w5 hSx (fun hSy5 => ?_)
      clear hSx
      clear hK K
      try simp only [Act.put, List.setIfInBounds_toArray, List.set_cons_zero, List.set_cons_succ]
      refine wpAnyH_take (i := 8) (oi := { dst := some 33, op := _, type := _, pos := _, after := _, guard := _ }) (v := ?_) rfl (by kernel_rfl) (by kernel_rfl) (by kernel_rfl) (fun _ _ _ h => h) (Or.inl ⟨by kernel_rfl, ?_⟩) (by assumption) ?_
      rotate_left
      · (intro w hSw; (try dsimp only at hSw); go_simp); all_goals (with_reducible rfl)
      try simp only [Act.put, List.setIfInBounds_toArray, List.set_cons_zero, List.set_cons_succ]
      refine wpAnyH_take (i := 9) (oi := { dst := some 34, op := _, type := _, pos := _, after := _, guard := _ }) (v := ?_) rfl (by kernel_rfl) (by kernel_rfl) (by kernel_rfl) (fun _ _ _ h => h) (Or.inl ⟨by kernel_rfl, ?_⟩) (by assumption) ?_
      rotate_left
      · (intro w hSw; (try dsimp only at hSw); go_simp); all_goals (with_reducible rfl)
      try simp only [Act.put, List.setIfInBounds_toArray, List.set_cons_zero, List.set_cons_succ]
      refine wpAnyH_ready (rs := [10]) (by kernel_rfl) (by simp) ?_
      refine (AllReadyH.cons (o := { dst := none, op := _, type := _, pos := _, after := _, guard := _ }) rfl (fun K hK => ?_) AllReadyH.nil)
      rw [if_pos (by kernel_rfl)]
      have q33 : w5.cell? ⟨rd, 3, none⟩ = some (Value.slice ao out.length co) := cell_of_heap hbx
      have f33 : w5.frozen? ⟨rd, 3, none⟩ = false := free_of_heap hbx
      go_wp2_with fail
      have hSx : (fun W : World => W.cell? ⟨w.heap.size, 0, none⟩ = some (.pointer (some ⟨rd, 0, none⟩)) ∧ W.heap[w.heap.size + 1]? = some (.cells #[.string ⟨s.meth.toArray⟩, .string ⟨s.target.toArray⟩, .int .i64 s.minor, (Value.slice af s.fields.length cf), .string ⟨s.body.toArray⟩, .bool cl] 31 (0, 0))) (w5.setCell ⟨rd, 3, none⟩ (.slice (some ⟨g, 0, none⟩) (out.length + 1) cap)) := ⟨(World.cell?_setCell_far _ _ _ _ (by simp only; omega)).trans hSy5.1, (Below.heap_setCell _ _ _ _ (by simp only; omega)).trans hSy5.2⟩
      refine hK.out _ _ hSx (fun hS6 => ?_)
      clear hSx
      clear hK K
      try simp only [Act.put]
      refine wpAnyH_done (by kernel_rfl) ?_ _
      have p6 := hS6.1
      have x6 := hS6.2
      clear q33 f33 hS6 hSy5 hSy hbx
      generalize (w5.setCell ⟨rd, 3, none⟩ (.slice (some ⟨g, 0, none⟩) (out.length + 1) cap)) = w6 at HP HM p6 x6 ⊢
      have hms : ∀ k, (k = w.heap.size ∨ k = w.heap.size + 1) → ¬ ((ms k ∧ ((Value.slice af s.fields.length cf)).ownBlock ≠ some k) ∨ k = g) := fun k hk hm => by
        rcases hm with hm | hm
        · have := (K0.out.low _ hm.1).2; omega
        · omega
      have P6 := Lib.hid p6
      have X6 := Lib.hid x6
      have HMS := Lib.hid hms
      clear x6 hms hgs
      go_wp2_with fail
      refine (begin_any HP.out).mono ?_
      rintro e w7 ⟨rfl, ms7, ⟨vo7, vl7, vf7, vb7, hI7⟩, m7⟩
      have p7 : w7.cell? ⟨w.heap.size, 0, none⟩ = some (.pointer (some ⟨rd, 0, none⟩)) := (World.cell?_of_block (m7.chg.block _ (World.block_lt_of_cell? _ _ P6.out) (HMS.out _ (.inl rfl)))).trans P6.out
      have x7 : w7.heap[w.heap.size + 1]? = some (.cells #[.string ⟨s.meth.toArray⟩, .string ⟨s.target.toArray⟩, .int .i64 s.minor, (Value.slice af s.fields.length cf), .string ⟨s.body.toArray⟩, .bool cl] 31 (0, 0)) := (m7.chg.block _ (Array.getElem?_eq_some_iff.1 X6.out).1 (HMS.out _ (.inr rfl))).trans X6.out
      have y7 : w7.cell? ⟨w.heap.size + 1, 5, none⟩ = some (.bool cl) := cell_of_heap x7
      have q7 : w7.cell? ⟨rd, 2, none⟩ = some (.bool s.done) := cell_of_heap hI7.box
      have f7 : w7.frozen? ⟨rd, 2, none⟩ = false := free_of_heap hI7.box
      have I7 := Lib.hid hI7
      have M7 := Lib.hid m7
      clear hI7 m7 x7
      go_wp2_with fail
      go_end0
      exact ⟨rfl, _, ⟨_, _, _, _, I7.out.set 2 (.bool cl) { s.begin with done := cl } rfl rfl rfl rfl⟩, (HM.out.trans M7.out).trans (I7.out.mvSet 2 _)⟩
    · rw [if_pos (by kernel_rfl)]
      have hSz : (fun W : World => W.cell? ⟨w.heap.size, 0, none⟩ = some (.pointer (some ⟨rd, 0, none⟩)) ∧ W.heap[w.heap.size + 1]? = some (.cells #[.string ⟨s.meth.toArray⟩, .string ⟨s.target.toArray⟩, .int .i64 s.minor, (Value.slice af s.fields.length cf), .string ⟨s.body.toArray⟩, .bool cl] 31 (0, 0))) w3 := by assumption
      go_wp2_with fail
      have hSx : (fun W : World => W.cell? ⟨w.heap.size, 0, none⟩ = some (.pointer (some ⟨rd, 0, none⟩)) ∧ W.heap[w.heap.size + 1]? = some (.cells #[.string ⟨s.meth.toArray⟩, .string ⟨s.target.toArray⟩, .int .i64 s.minor, (Value.slice af s.fields.length cf), .string ⟨s.body.toArray⟩, .bool cl] 31 (0, 0))) (w3.alloc (.cells #[.string ⟨s.meth.toArray⟩, .string ⟨s.target.toArray⟩, .int .i64 s.minor, (Value.slice af s.fields.length cf), .string ⟨s.body.toArray⟩, .bool cl] 31)) := ⟨cell_past _ hSz.1, (Below.heap_alloc _ _ _ (Array.getElem?_eq_some_iff.1 hSz.2).1).trans hSz.2⟩
      have K4 := Lib.hid (K3.out.later (below_alloc (Below.refl _ _) (Nat.le_refl _) (.cells #[.string ⟨s.meth.toArray⟩, .string ⟨s.target.toArray⟩, .int .i64 s.minor, (Value.slice af s.fields.length cf), .string ⟨s.body.toArray⟩, .bool cl] 31)))
      have M4 := Lib.hid (M3.out.later (below_alloc (Below.refl _ _) (Nat.le_refl _) (.cells #[.string ⟨s.meth.toArray⟩, .string ⟨s.target.toArray⟩, .int .i64 s.minor, (Value.slice af s.fields.length cf), .string ⟨s.body.toArray⟩, .bool cl] 31)))
      have L4 : Hid ((w3.alloc (.cells #[.string ⟨s.meth.toArray⟩, .string ⟨s.target.toArray⟩, .int .i64 s.minor, (Value.slice af s.fields.length cf), .string ⟨s.body.toArray⟩, .bool cl] 31)).heap[w3.heap.size]? = some (.cells #[.string ⟨s.meth.toArray⟩, .string ⟨s.target.toArray⟩, .int .i64 s.minor, (Value.slice af s.fields.length cf), .string ⟨s.body.toArray⟩, .bool cl] 31 (0, 0))) := heap_alloc_new w3 _
      refine hK.out _ (w3.alloc (.cells #[.string ⟨s.meth.toArray⟩, .string ⟨s.target.toArray⟩, .int .i64 s.minor, (Value.slice af s.fields.length cf), .string ⟨s.body.toArray⟩, .bool cl] 31)) hSx (fun hSy => ?_)
      clear hSx hSz
      generalize w3.alloc (.cells #[.string ⟨s.meth.toArray⟩, .string ⟨s.target.toArray⟩, .int .i64 s.minor, (Value.slice af s.fields.length cf), .string ⟨s.body.toArray⟩, .bool cl] 31) = w4 at K4 M4 L4 hSy ⊢
      generalize w3.heap.size = gl at L4 ⊢
      clear K3 M3
      clear hK K
      try simp only [Act.put, List.setIfInBounds_toArray, List.set_cons_zero, List.set_cons_succ]
      refine wpAnyH_ready (rs := [4]) (by kernel_rfl) (by simp) ?_
      refine (AllReadyH.cons (o := { dst := some 29, op := _, type := _, pos := _, after := _, guard := _ }) rfl (fun K hK => ?_) AllReadyH.nil)
      rw [if_pos (by kernel_rfl)]
      have c3 : w4.cell? ⟨rd, 3, none⟩ = some (Value.slice ao out.length co) := cell_of_heap K4.out.box
      go_wp2_with fail
      clear c3
      refine hK.out _ _ (by assumption) (fun _ => ?_)
      clear hK K
      try simp only [Act.put, List.setIfInBounds_toArray, List.set_cons_zero, List.set_cons_succ]
      refine wpAnyH_ready (rs := [7]) (by kernel_rfl) (by simp) ?_
      refine (AllReadyH.cons (o := { dst := some 32, op := _, type := _, pos := _, after := _, guard := _ }) rfl (fun K hK => ?_) AllReadyH.nil)
      rw [if_pos (by kernel_rfl)]
      have hSz : (fun W : World => W.cell? ⟨w.heap.size, 0, none⟩ = some (.pointer (some ⟨rd, 0, none⟩)) ∧ W.heap[w.heap.size + 1]? = some (.cells #[.string ⟨s.meth.toArray⟩, .string ⟨s.target.toArray⟩, .int .i64 s.minor, (Value.slice af s.fields.length cf), .string ⟨s.body.toArray⟩, .bool cl] 31 (0, 0))) w4 := by assumption
      obtain ⟨xs, ok, h1, h2, h3⟩ := K4.out.outs
      refine wp_append_lies _ _ _ _ (by rfl) 0 31 i0 _ 6 88 Tryz.underlying24 hi hz0 hz1 hz2 rfl (by decide) (Value.slice ao out.length co) out.length xs (by rfl) h1 ⟨gl, 0, none⟩ 1 1 (#[.string ⟨s.meth.toArray⟩, .string ⟨s.target.toArray⟩, .int .i64 s.minor, (Value.slice af s.fields.length cf), .string ⟨s.body.toArray⟩, .bool cl]).toList (by rfl) (by rfl) (fun j u hj => by rw [Addr.add_lit, cell_of_heap L4.out]; simpa using hj) (by simp [Value.oneCell']) (by decide) (by simp only [maxLen]; omega) (by omega) (Nat.zero_le _) _ rfl ?_
      intro g cap w5 hown hgr hat hlt2
      have hbx := K4.out.past K4.out.oO hgr
      have hP := K4.out.pushOut (body := s.body) (cl := cl) h2 h3 hown rfl hgr hat hlt2
      have HP := Lib.hid hP.1
      have HM := Lib.hid (M4.out.trans hP.2)
      have hne : (Value.slice ao out.length co).ownBlock ≠ some (w.heap.size + 1) := fun e => by have := (K0.out.low _ (K0.out.oO _ e).1).2; omega
      have hne0 : (Value.slice ao out.length co).ownBlock ≠ some w.heap.size := fun e => by have := (K0.out.low _ (K0.out.oO _ e).1).2; omega
      have hSx : (fun W : World => W.cell? ⟨w.heap.size, 0, none⟩ = some (.pointer (some ⟨rd, 0, none⟩)) ∧ W.heap[w.heap.size + 1]? = some (.cells #[.string ⟨s.meth.toArray⟩, .string ⟨s.target.toArray⟩, .int .i64 s.minor, (Value.slice af s.fields.length cf), .string ⟨s.body.toArray⟩, .bool cl] 31 (0, 0))) w5 := ⟨(World.cell?_of_block (hgr.block _ (World.block_lt_of_cell? _ _ hSz.1) (fun e => hne0 e.symm))).trans hSz.1, (hgr.block _ (Array.getElem?_eq_some_iff.1 hSz.2).1 (fun e => hne e.symm)).trans hSz.2⟩
      have hgs : g ≠ w.heap.size ∧ g ≠ w.heap.size + 1 := by
        have h5 := (Array.getElem?_eq_some_iff.1 hSz.2).1
        rcases hat with e | e
        · have := (K0.out.low _ (K0.out.oO _ e).1).2; omega
        · omega
      clear hP hown hgr hat h1 h2 h3 hne hne0 hSz
      refine hK.out _ w5 hSx (fun hSy5 => ?_)
      clear hSx
      clear hK K
      try simp only [Act.put, List.setIfInBounds_toArray, List.set_cons_zero, List.set_cons_succ]
      refine wpAnyH_take (i := 8) (oi := { dst := some 33, op := _, type := _, pos := _, after := _, guard := _ }) (v := ?_) rfl (by kernel_rfl) (by kernel_rfl) (by kernel_rfl) (fun _ _ _ h => h) (Or.inl ⟨by kernel_rfl, ?_⟩) (by assumption) ?_
      rotate_left
      · (intro w hSw; (try dsimp only at hSw); go_simp); all_goals (with_reducible rfl)
      try simp only [Act.put, List.setIfInBounds_toArray, List.set_cons_zero, List.set_cons_succ]
      refine wpAnyH_take (i := 9) (oi := { dst := some 34, op := _, type := _, pos := _, after := _, guard := _ }) (v := ?_) rfl (by kernel_rfl) (by kernel_rfl) (by kernel_rfl) (fun _ _ _ h => h) (Or.inl ⟨by kernel_rfl, ?_⟩) (by assumption) ?_
      rotate_left
      · (intro w hSw; (try dsimp only at hSw); go_simp); all_goals (with_reducible rfl)
      try simp only [Act.put, List.setIfInBounds_toArray, List.set_cons_zero, List.set_cons_succ]
      refine wpAnyH_ready (rs := [10]) (by kernel_rfl) (by simp) ?_
      refine (AllReadyH.cons (o := { dst := none, op := _, type := _, pos := _, after := _, guard := _ }) rfl (fun K hK => ?_) AllReadyH.nil)
      rw [if_pos (by kernel_rfl)]
      have q33 : w5.cell? ⟨rd, 3, none⟩ = some (Value.slice ao out.length co) := cell_of_heap hbx
      have f33 : w5.frozen? ⟨rd, 3, none⟩ = false := free_of_heap hbx
      go_wp2_with fail
      have hSx : (fun W : World => W.cell? ⟨w.heap.size, 0, none⟩ = some (.pointer (some ⟨rd, 0, none⟩)) ∧ W.heap[w.heap.size + 1]? = some (.cells #[.string ⟨s.meth.toArray⟩, .string ⟨s.target.toArray⟩, .int .i64 s.minor, (Value.slice af s.fields.length cf), .string ⟨s.body.toArray⟩, .bool cl] 31 (0, 0))) (w5.setCell ⟨rd, 3, none⟩ (.slice (some ⟨g, 0, none⟩) (out.length + 1) cap)) := ⟨(World.cell?_setCell_far _ _ _ _ (by simp only; omega)).trans hSy5.1, (Below.heap_setCell _ _ _ _ (by simp only; omega)).trans hSy5.2⟩
      refine hK.out _ _ hSx (fun hS6 => ?_)
      clear hSx
      clear hK K
      try simp only [Act.put]
      refine wpAnyH_done (by kernel_rfl) ?_ _
      have p6 := hS6.1
      have x6 := hS6.2
      clear q33 f33 hS6 hSy5 hSy hbx
      generalize (w5.setCell ⟨rd, 3, none⟩ (.slice (some ⟨g, 0, none⟩) (out.length + 1) cap)) = w6 at HP HM p6 x6 ⊢
      have hms : ∀ k, (k = w.heap.size ∨ k = w.heap.size + 1) → ¬ ((ms k ∧ ((Value.slice af s.fields.length cf)).ownBlock ≠ some k) ∨ k = g) := fun k hk hm => by
        rcases hm with hm | hm
        · have := (K0.out.low _ hm.1).2; omega
        · omega
      have P6 := Lib.hid p6
      have X6 := Lib.hid x6
      have HMS := Lib.hid hms
      clear x6 hms hgs
      go_wp2_with fail
      refine (begin_any HP.out).mono ?_
      rintro e w7 ⟨rfl, ms7, ⟨vo7, vl7, vf7, vb7, hI7⟩, m7⟩
      have p7 : w7.cell? ⟨w.heap.size, 0, none⟩ = some (.pointer (some ⟨rd, 0, none⟩)) := (World.cell?_of_block (m7.chg.block _ (World.block_lt_of_cell? _ _ P6.out) (HMS.out _ (.inl rfl)))).trans P6.out
      have x7 : w7.heap[w.heap.size + 1]? = some (.cells #[.string ⟨s.meth.toArray⟩, .string ⟨s.target.toArray⟩, .int .i64 s.minor, (Value.slice af s.fields.length cf), .string ⟨s.body.toArray⟩, .bool cl] 31 (0, 0)) := (m7.chg.block _ (Array.getElem?_eq_some_iff.1 X6.out).1 (HMS.out _ (.inr rfl))).trans X6.out
      have y7 : w7.cell? ⟨w.heap.size + 1, 5, none⟩ = some (.bool cl) := cell_of_heap x7
      have q7 : w7.cell? ⟨rd, 2, none⟩ = some (.bool s.done) := cell_of_heap hI7.box
      have f7 : w7.frozen? ⟨rd, 2, none⟩ = false := free_of_heap hI7.box
      have I7 := Lib.hid hI7
      have M7 := Lib.hid m7
      clear hI7 m7 x7
      go_wp2_with fail
      go_end0
      exact ⟨rfl, _, ⟨_, _, _, _, I7.out.set 2 (.bool cl) { s.begin with done := cl } rfl rfl rfl rfl⟩, (HM.out.trans M7.out).trans (I7.out.mvSet 2 _)⟩

  · have hclv : (!((valuesL connL s.fields).any fun v => smallL v == aliveL)) = cl := by rw [← hcl]; unfold RS.closes; rw [if_neg hm]
    have HS2 := Lib.hid (HSAY.out aliveL)
    obtain ⟨al, hal⟩ : ∃ x, ((valuesL connL s.fields).any fun v => smallL v == aliveL) = x := ⟨_, rfl⟩
    rw [hal] at HS2 hclv
    clear hal
    have hmb : (s.minor == 1) = false := by simpa using hm
    clear hm HSAY hcl
    go_wp2_with fail
    refine HS2.out.mono ?_
    rintro e w2 ⟨rfl, hb2⟩
    have hx2 : w2.heap[w.heap.size + 1]? = some (.cells #[.string ⟨s.meth.toArray⟩, .string ⟨s.target.toArray⟩, .int .i64 s.minor, (Value.slice af s.fields.length cf), .string ⟨s.body.toArray⟩, .bool false] 31 (0, 0)) := (hb2.block _ (Array.getElem?_eq_some_iff.1 X1.out).1).trans X1.out
    have k5 : w2.cell? ⟨w.heap.size + 1, 5, none⟩ = some (.bool false) := cell_of_heap hx2
    have f5 : w2.frozen? ⟨w.heap.size + 1, 5, none⟩ = false := free_of_heap hx2
    have k0 := cell_later hb2 X0.out
    have K2 := Lib.hid (K1.out.later hb2)
    have X2 := Lib.hid hx2
    have HW := Lib.hid (B1.out.trans (hb2.mono B1.out.size))
    clear hb2 hx2
    go_wp2_with fail
    have hx3 : (w2.setCell ⟨w.heap.size + 1, 5, none⟩ (.bool cl)).heap[w.heap.size + 1]? = some (.cells #[.string ⟨s.meth.toArray⟩, .string ⟨s.target.toArray⟩, .int .i64 s.minor, (Value.slice af s.fields.length cf), .string ⟨s.body.toArray⟩, .bool cl] 31 (0, 0)) := by rw [heap_set X2.out]; rfl
    have q3 : (w2.setCell ⟨w.heap.size + 1, 5, none⟩ (.bool cl)).cell? ⟨w.heap.size, 0, none⟩ = some (.pointer (some ⟨rd, 0, none⟩)) := (World.cell?_setCell_far _ _ _ _ (by simp)).trans k0
    have HW3 : Below w.heap.size w (w2.setCell ⟨w.heap.size + 1, 5, none⟩ (.bool cl)) := HW.out.setCell (by simp) _
    have K3 := Lib.hid (K0.out.later HW3)
    have M3 := Lib.hid (Mv.of_below (m := ms) HW3)
    clear k5 f5 k0 HW3 X2 HW K2
    generalize (w2.setCell ⟨w.heap.size + 1, 5, none⟩ (.bool cl)) = w3 at hx3 q3 K3 M3 ⊢
    have X3 := Lib.hid hx3
    clear hx3 K1 X0 X1 B1 hw1 hcv k2 r8 r9 r10 r11 r12 r13 r14
    refine wp_region_held_drew (S := (fun W : World => W.cell? ⟨w.heap.size, 0, none⟩ = some (.pointer (some ⟨rd, 0, none⟩)) ∧ W.heap[w.heap.size + 1]? = some (.cells #[.string ⟨s.meth.toArray⟩, .string ⟨s.target.toArray⟩, .int .i64 s.minor, (Value.slice af s.fields.length cf), .string ⟨s.body.toArray⟩, .bool cl] 31 (0, 0)))) (by kernel_rfl) ⟨q3, X3.out⟩ (fun hS0 => ?_)
    have K3 := Lib.hid (K3.out.later (Below.drew (Below.refl _ _)))
    have M3 := Lib.hid (M3.out.later (Below.drew (Below.refl _ _)))
    clear X3 q3
    generalize w3.drew = w3 at K3 M3 hS0 ⊢
    refine wpAnyH_take (i := 0) (oi := { dst := some 25, op := _, type := _, pos := _, after := _, guard := _ }) (v := ?_) rfl (by kernel_rfl) (by kernel_rfl) (by kernel_rfl) (fun _ _ _ h => h) (Or.inl ⟨by kernel_rfl, ?_⟩) (by assumption) ?_
    rotate_left
    · (intro w hSw; (try dsimp only at hSw); (obtain ⟨h1, h2⟩ := hSw); (have k0 := cell_of_heap (x := 0) h2); (have k1 := cell_of_heap (x := 1) h2); (have k2 := cell_of_heap (x := 2) h2); (have k3 := cell_of_heap (x := 3) h2); (have k4 := cell_of_heap (x := 4) h2); (have k5 := cell_of_heap (x := 5) h2); go_simp); all_goals (with_reducible rfl)
    try simp only [Act.put, List.setIfInBounds_toArray, List.set_cons_zero, List.set_cons_succ]
    refine wpAnyH_take (i := 1) (oi := { dst := some 26, op := _, type := _, pos := _, after := _, guard := _ }) (v := ?_) rfl (by kernel_rfl) (by kernel_rfl) (by kernel_rfl) (fun _ _ _ h => h) (Or.inl ⟨by kernel_rfl, ?_⟩) (by assumption) ?_
    rotate_left
    · (intro w hSw; (try dsimp only at hSw); (obtain ⟨h1, h2⟩ := hSw); (have k0 := cell_of_heap (x := 0) h2); (have k1 := cell_of_heap (x := 1) h2); (have k2 := cell_of_heap (x := 2) h2); (have k3 := cell_of_heap (x := 3) h2); (have k4 := cell_of_heap (x := 4) h2); (have k5 := cell_of_heap (x := 5) h2); go_simp); all_goals (with_reducible rfl)
    try simp only [Act.put, List.setIfInBounds_toArray, List.set_cons_zero, List.set_cons_succ]
    refine wpAnyH_take (i := 2) (oi := { dst := some 27, op := _, type := _, pos := _, after := _, guard := _ }) (v := ?_) rfl (by kernel_rfl) (by kernel_rfl) (by kernel_rfl) (fun _ _ _ h => h) (Or.inl ⟨by kernel_rfl, ?_⟩) (by assumption) ?_
    rotate_left
    · (intro w hSw; (try dsimp only at hSw); go_simp); all_goals (with_reducible rfl)
    try simp only [Act.put, List.setIfInBounds_toArray, List.set_cons_zero, List.set_cons_succ]
    refine wpAnyH_take (i := 3) (oi := { dst := some 28, op := _, type := _, pos := _, after := _, guard := _ }) (v := ?_) rfl (by kernel_rfl) (by kernel_rfl) (by kernel_rfl) (fun _ _ _ h => h) (Or.inl ⟨by kernel_rfl, ?_⟩) (by assumption) ?_
    rotate_left
    · (intro w hSw; (try dsimp only at hSw); go_simp); all_goals (with_reducible rfl)
    try simp only [Act.put, List.setIfInBounds_toArray, List.set_cons_zero, List.set_cons_succ]
    refine wpAnyH_take (i := 5) (oi := { dst := some 30, op := _, type := _, pos := _, after := _, guard := _ }) (v := ?_) rfl (by kernel_rfl) (by kernel_rfl) (by kernel_rfl) (fun _ _ _ h => h) (Or.inl ⟨by kernel_rfl, ?_⟩) (by assumption) ?_
    rotate_left
    · (intro w hSw; (try dsimp only at hSw); (obtain ⟨h1, h2⟩ := hSw); (have k0 := cell_of_heap (x := 0) h2); (have k1 := cell_of_heap (x := 1) h2); (have k2 := cell_of_heap (x := 2) h2); (have k3 := cell_of_heap (x := 3) h2); (have k4 := cell_of_heap (x := 4) h2); (have k5 := cell_of_heap (x := 5) h2); go_simp); all_goals (with_reducible rfl)
    try simp only [Act.put, List.setIfInBounds_toArray, List.set_cons_zero, List.set_cons_succ]
    refine wpAnyH_ready (rs := [4, 6]) (by kernel_rfl) (by simp) ?_
    refine (AllReadyH.cons (o := { dst := some 29, op := _, type := _, pos := _, after := _, guard := _ }) rfl (fun K hK => ?_) (AllReadyH.cons (o := { dst := some 31, op := _, type := _, pos := _, after := _, guard := _ }) rfl (fun K hK => ?_) AllReadyH.nil))
    · rw [if_pos (by kernel_rfl)]
      have c3 : w3.cell? ⟨rd, 3, none⟩ = some (Value.slice ao out.length co) := cell_of_heap K3.out.box
      go_wp2_with fail
      clear c3
      refine hK.out _ _ (by assumption) (fun _ => ?_)
      clear hK K
      try simp only [Act.put, List.setIfInBounds_toArray, List.set_cons_zero, List.set_cons_succ]
      refine wpAnyH_ready (rs := [6]) (by kernel_rfl) (by simp) ?_
      refine (AllReadyH.cons (o := { dst := some 31, op := _, type := _, pos := _, after := _, guard := _ }) rfl (fun K hK => ?_) AllReadyH.nil)
      rw [if_pos (by kernel_rfl)]
      have hSz : (fun W : World => W.cell? ⟨w.heap.size, 0, none⟩ = some (.pointer (some ⟨rd, 0, none⟩)) ∧ W.heap[w.heap.size + 1]? = some (.cells #[.string ⟨s.meth.toArray⟩, .string ⟨s.target.toArray⟩, .int .i64 s.minor, (Value.slice af s.fields.length cf), .string ⟨s.body.toArray⟩, .bool cl] 31 (0, 0))) w3 := by assumption
      go_wp2_with fail
      have hSx : (fun W : World => W.cell? ⟨w.heap.size, 0, none⟩ = some (.pointer (some ⟨rd, 0, none⟩)) ∧ W.heap[w.heap.size + 1]? = some (.cells #[.string ⟨s.meth.toArray⟩, .string ⟨s.target.toArray⟩, .int .i64 s.minor, (Value.slice af s.fields.length cf), .string ⟨s.body.toArray⟩, .bool cl] 31 (0, 0))) (w3.alloc (.cells #[.string ⟨s.meth.toArray⟩, .string ⟨s.target.toArray⟩, .int .i64 s.minor, (Value.slice af s.fields.length cf), .string ⟨s.body.toArray⟩, .bool cl] 31)) := ⟨cell_past _ hSz.1, (Below.heap_alloc _ _ _ (Array.getElem?_eq_some_iff.1 hSz.2).1).trans hSz.2⟩
      have K4 := Lib.hid (K3.out.later (below_alloc (Below.refl _ _) (Nat.le_refl _) (.cells #[.string ⟨s.meth.toArray⟩, .string ⟨s.target.toArray⟩, .int .i64 s.minor, (Value.slice af s.fields.length cf), .string ⟨s.body.toArray⟩, .bool cl] 31)))
      have M4 := Lib.hid (M3.out.later (below_alloc (Below.refl _ _) (Nat.le_refl _) (.cells #[.string ⟨s.meth.toArray⟩, .string ⟨s.target.toArray⟩, .int .i64 s.minor, (Value.slice af s.fields.length cf), .string ⟨s.body.toArray⟩, .bool cl] 31)))
      have L4 : Hid ((w3.alloc (.cells #[.string ⟨s.meth.toArray⟩, .string ⟨s.target.toArray⟩, .int .i64 s.minor, (Value.slice af s.fields.length cf), .string ⟨s.body.toArray⟩, .bool cl] 31)).heap[w3.heap.size]? = some (.cells #[.string ⟨s.meth.toArray⟩, .string ⟨s.target.toArray⟩, .int .i64 s.minor, (Value.slice af s.fields.length cf), .string ⟨s.body.toArray⟩, .bool cl] 31 (0, 0))) := heap_alloc_new w3 _
      refine hK.out _ (w3.alloc (.cells #[.string ⟨s.meth.toArray⟩, .string ⟨s.target.toArray⟩, .int .i64 s.minor, (Value.slice af s.fields.length cf), .string ⟨s.body.toArray⟩, .bool cl] 31)) hSx (fun hSy => ?_)
      clear hSx hSz
      generalize w3.alloc (.cells #[.string ⟨s.meth.toArray⟩, .string ⟨s.target.toArray⟩, .int .i64 s.minor, (Value.slice af s.fields.length cf), .string ⟨s.body.toArray⟩, .bool cl] 31) = w4 at K4 M4 L4 hSy ⊢
      generalize w3.heap.size = gl at L4 ⊢
      clear K3 M3
      clear hK K
      try simp only [Act.put, List.setIfInBounds_toArray, List.set_cons_zero, List.set_cons_succ]
      refine wpAnyH_ready (rs := [7]) (by kernel_rfl) (by simp) ?_
      refine (AllReadyH.cons (o := { dst := some 32, op := _, type := _, pos := _, after := _, guard := _ }) rfl (fun K hK => ?_) AllReadyH.nil)
      rw [if_pos (by kernel_rfl)]
      have hSz : (fun W : World => W.cell? ⟨w.heap.size, 0, none⟩ = some (.pointer (some ⟨rd, 0, none⟩)) ∧ W.heap[w.heap.size + 1]? = some (.cells #[.string ⟨s.meth.toArray⟩, .string ⟨s.target.toArray⟩, .int .i64 s.minor, (Value.slice af s.fields.length cf), .string ⟨s.body.toArray⟩, .bool cl] 31 (0, 0))) w4 := by assumption
      obtain ⟨xs, ok, h1, h2, h3⟩ := K4.out.outs
      refine wp_append_lies _ _ _ _ (by rfl) 0 31 i0 _ 6 88 Tryz.underlying24 hi hz0 hz1 hz2 rfl (by decide) (Value.slice ao out.length co) out.length xs (by rfl) h1 ⟨gl, 0, none⟩ 1 1 (#[.string ⟨s.meth.toArray⟩, .string ⟨s.target.toArray⟩, .int .i64 s.minor, (Value.slice af s.fields.length cf), .string ⟨s.body.toArray⟩, .bool cl]).toList (by rfl) (by rfl) (fun j u hj => by rw [Addr.add_lit, cell_of_heap L4.out]; simpa using hj) (by simp [Value.oneCell']) (by decide) (by simp only [maxLen]; omega) (by omega) (Nat.zero_le _) _ rfl ?_
      intro g cap w5 hown hgr hat hlt2
      have hbx := K4.out.past K4.out.oO hgr
      have hP := K4.out.pushOut (body := s.body) (cl := cl) h2 h3 hown rfl hgr hat hlt2
      have HP := Lib.hid hP.1
      have HM := Lib.hid (M4.out.trans hP.2)
      have hne : (Value.slice ao out.length co).ownBlock ≠ some (w.heap.size + 1) := fun e => by have := (K0.out.low _ (K0.out.oO _ e).1).2; omega
      have hne0 : (Value.slice ao out.length co).ownBlock ≠ some w.heap.size := fun e => by have := (K0.out.low _ (K0.out.oO _ e).1).2; omega
      have hSx : (fun W : World => W.cell? ⟨w.heap.size, 0, none⟩ = some (.pointer (some ⟨rd, 0, none⟩)) ∧ W.heap[w.heap.size + 1]? = some (.cells #[.string ⟨s.meth.toArray⟩, .string ⟨s.target.toArray⟩, .int .i64 s.minor, (Value.slice af s.fields.length cf), .string ⟨s.body.toArray⟩, .bool cl] 31 (0, 0))) w5 := ⟨(World.cell?_of_block (hgr.block _ (World.block_lt_of_cell? _ _ hSz.1) (fun e => hne0 e.symm))).trans hSz.1, (hgr.block _ (Array.getElem?_eq_some_iff.1 hSz.2).1 (fun e => hne e.symm)).trans hSz.2⟩
      have hgs : g ≠ w.heap.size ∧ g ≠ w.heap.size + 1 := by
        have h5 := (Array.getElem?_eq_some_iff.1 hSz.2).1
        rcases hat with e | e
        · have := (K0.out.low _ (K0.out.oO _ e).1).2; omega
        · omega
      clear hP hown hgr hat h1 h2 h3 hne hne0 hSz
      refine hK.out _ w5 hSx (fun hSy5 => ?_)
      clear hSx
      clear hK K
      try simp only [Act.put, List.setIfInBounds_toArray, List.set_cons_zero, List.set_cons_succ]
      refine wpAnyH_take (i := 8) (oi := { dst := some 33, op := _, type := _, pos := _, after := _, guard := _ }) (v := ?_) rfl (by kernel_rfl) (by kernel_rfl) (by kernel_rfl) (fun _ _ _ h => h) (Or.inl ⟨by kernel_rfl, ?_⟩) (by assumption) ?_
      rotate_left
      · (intro w hSw; (try dsimp only at hSw); go_simp); all_goals (with_reducible rfl)
      try simp only [Act.put, List.setIfInBounds_toArray, List.set_cons_zero, List.set_cons_succ]
      refine wpAnyH_take (i := 9) (oi := { dst := some 34, op := _, type := _, pos := _, after := _, guard := _ }) (v := ?_) rfl (by kernel_rfl) (by kernel_rfl) (by kernel_rfl) (fun _ _ _ h => h) (Or.inl ⟨by kernel_rfl, ?_⟩) (by assumption) ?_
      rotate_left
      · (intro w hSw; (try dsimp only at hSw); go_simp); all_goals (with_reducible rfl)
      try simp only [Act.put, List.setIfInBounds_toArray, List.set_cons_zero, List.set_cons_succ]
      refine wpAnyH_ready (rs := [10]) (by kernel_rfl) (by simp) ?_
      refine (AllReadyH.cons (o := { dst := none, op := _, type := _, pos := _, after := _, guard := _ }) rfl (fun K hK => ?_) AllReadyH.nil)
      rw [if_pos (by kernel_rfl)]
      have q33 : w5.cell? ⟨rd, 3, none⟩ = some (Value.slice ao out.length co) := cell_of_heap hbx
      have f33 : w5.frozen? ⟨rd, 3, none⟩ = false := free_of_heap hbx
      go_wp2_with fail
      have hSx : (fun W : World => W.cell? ⟨w.heap.size, 0, none⟩ = some (.pointer (some ⟨rd, 0, none⟩)) ∧ W.heap[w.heap.size + 1]? = some (.cells #[.string ⟨s.meth.toArray⟩, .string ⟨s.target.toArray⟩, .int .i64 s.minor, (Value.slice af s.fields.length cf), .string ⟨s.body.toArray⟩, .bool cl] 31 (0, 0))) (w5.setCell ⟨rd, 3, none⟩ (.slice (some ⟨g, 0, none⟩) (out.length + 1) cap)) := ⟨(World.cell?_setCell_far _ _ _ _ (by simp only; omega)).trans hSy5.1, (Below.heap_setCell _ _ _ _ (by simp only; omega)).trans hSy5.2⟩
      refine hK.out _ _ hSx (fun hS6 => ?_)
      clear hSx
      clear hK K
      try simp only [Act.put]
      refine wpAnyH_done (by kernel_rfl) ?_ _
      have p6 := hS6.1
      have x6 := hS6.2
      clear q33 f33 hS6 hSy5 hSy hbx
      generalize (w5.setCell ⟨rd, 3, none⟩ (.slice (some ⟨g, 0, none⟩) (out.length + 1) cap)) = w6 at HP HM p6 x6 ⊢
      have hms : ∀ k, (k = w.heap.size ∨ k = w.heap.size + 1) → ¬ ((ms k ∧ ((Value.slice af s.fields.length cf)).ownBlock ≠ some k) ∨ k = g) := fun k hk hm => by
        rcases hm with hm | hm
        · have := (K0.out.low _ hm.1).2; omega
        · omega
      have P6 := Lib.hid p6
      have X6 := Lib.hid x6
      have HMS := Lib.hid hms
      clear x6 hms hgs
      go_wp2_with fail
      refine (begin_any HP.out).mono ?_
      rintro e w7 ⟨rfl, ms7, ⟨vo7, vl7, vf7, vb7, hI7⟩, m7⟩
      have p7 : w7.cell? ⟨w.heap.size, 0, none⟩ = some (.pointer (some ⟨rd, 0, none⟩)) := (World.cell?_of_block (m7.chg.block _ (World.block_lt_of_cell? _ _ P6.out) (HMS.out _ (.inl rfl)))).trans P6.out
      have x7 : w7.heap[w.heap.size + 1]? = some (.cells #[.string ⟨s.meth.toArray⟩, .string ⟨s.target.toArray⟩, .int .i64 s.minor, (Value.slice af s.fields.length cf), .string ⟨s.body.toArray⟩, .bool cl] 31 (0, 0)) := (m7.chg.block _ (Array.getElem?_eq_some_iff.1 X6.out).1 (HMS.out _ (.inr rfl))).trans X6.out
      have y7 : w7.cell? ⟨w.heap.size + 1, 5, none⟩ = some (.bool cl) := cell_of_heap x7
      have q7 : w7.cell? ⟨rd, 2, none⟩ = some (.bool s.done) := cell_of_heap hI7.box
      have f7 : w7.frozen? ⟨rd, 2, none⟩ = false := free_of_heap hI7.box
      have I7 := Lib.hid hI7
      have M7 := Lib.hid m7
      clear hI7 m7 x7
      go_wp2_with fail
      go_end0
      exact ⟨rfl, _, ⟨_, _, _, _, I7.out.set 2 (.bool cl) { s.begin with done := cl } rfl rfl rfl rfl⟩, (HM.out.trans M7.out).trans (I7.out.mvSet 2 _)⟩
    · rw [if_pos (by kernel_rfl)]
      have hSz : (fun W : World => W.cell? ⟨w.heap.size, 0, none⟩ = some (.pointer (some ⟨rd, 0, none⟩)) ∧ W.heap[w.heap.size + 1]? = some (.cells #[.string ⟨s.meth.toArray⟩, .string ⟨s.target.toArray⟩, .int .i64 s.minor, (Value.slice af s.fields.length cf), .string ⟨s.body.toArray⟩, .bool cl] 31 (0, 0))) w3 := by assumption
      go_wp2_with fail
      have hSx : (fun W : World => W.cell? ⟨w.heap.size, 0, none⟩ = some (.pointer (some ⟨rd, 0, none⟩)) ∧ W.heap[w.heap.size + 1]? = some (.cells #[.string ⟨s.meth.toArray⟩, .string ⟨s.target.toArray⟩, .int .i64 s.minor, (Value.slice af s.fields.length cf), .string ⟨s.body.toArray⟩, .bool cl] 31 (0, 0))) (w3.alloc (.cells #[.string ⟨s.meth.toArray⟩, .string ⟨s.target.toArray⟩, .int .i64 s.minor, (Value.slice af s.fields.length cf), .string ⟨s.body.toArray⟩, .bool cl] 31)) := ⟨cell_past _ hSz.1, (Below.heap_alloc _ _ _ (Array.getElem?_eq_some_iff.1 hSz.2).1).trans hSz.2⟩
      have K4 := Lib.hid (K3.out.later (below_alloc (Below.refl _ _) (Nat.le_refl _) (.cells #[.string ⟨s.meth.toArray⟩, .string ⟨s.target.toArray⟩, .int .i64 s.minor, (Value.slice af s.fields.length cf), .string ⟨s.body.toArray⟩, .bool cl] 31)))
      have M4 := Lib.hid (M3.out.later (below_alloc (Below.refl _ _) (Nat.le_refl _) (.cells #[.string ⟨s.meth.toArray⟩, .string ⟨s.target.toArray⟩, .int .i64 s.minor, (Value.slice af s.fields.length cf), .string ⟨s.body.toArray⟩, .bool cl] 31)))
      have L4 : Hid ((w3.alloc (.cells #[.string ⟨s.meth.toArray⟩, .string ⟨s.target.toArray⟩, .int .i64 s.minor, (Value.slice af s.fields.length cf), .string ⟨s.body.toArray⟩, .bool cl] 31)).heap[w3.heap.size]? = some (.cells #[.string ⟨s.meth.toArray⟩, .string ⟨s.target.toArray⟩, .int .i64 s.minor, (Value.slice af s.fields.length cf), .string ⟨s.body.toArray⟩, .bool cl] 31 (0, 0))) := heap_alloc_new w3 _
      refine hK.out _ (w3.alloc (.cells #[.string ⟨s.meth.toArray⟩, .string ⟨s.target.toArray⟩, .int .i64 s.minor, (Value.slice af s.fields.length cf), .string ⟨s.body.toArray⟩, .bool cl] 31)) hSx (fun hSy => ?_)
      clear hSx hSz
      generalize w3.alloc (.cells #[.string ⟨s.meth.toArray⟩, .string ⟨s.target.toArray⟩, .int .i64 s.minor, (Value.slice af s.fields.length cf), .string ⟨s.body.toArray⟩, .bool cl] 31) = w4 at K4 M4 L4 hSy ⊢
      generalize w3.heap.size = gl at L4 ⊢
      clear K3 M3
      clear hK K
      try simp only [Act.put, List.setIfInBounds_toArray, List.set_cons_zero, List.set_cons_succ]
      refine wpAnyH_ready (rs := [4]) (by kernel_rfl) (by simp) ?_
      refine (AllReadyH.cons (o := { dst := some 29, op := _, type := _, pos := _, after := _, guard := _ }) rfl (fun K hK => ?_) AllReadyH.nil)
      rw [if_pos (by kernel_rfl)]
      have c3 : w4.cell? ⟨rd, 3, none⟩ = some (Value.slice ao out.length co) := cell_of_heap K4.out.box
      go_wp2_with fail
      clear c3
      refine hK.out _ _ (by assumption) (fun _ => ?_)
      clear hK K
      try simp only [Act.put, List.setIfInBounds_toArray, List.set_cons_zero, List.set_cons_succ]
      refine wpAnyH_ready (rs := [7]) (by kernel_rfl) (by simp) ?_
      refine (AllReadyH.cons (o := { dst := some 32, op := _, type := _, pos := _, after := _, guard := _ }) rfl (fun K hK => ?_) AllReadyH.nil)
      rw [if_pos (by kernel_rfl)]
      have hSz : (fun W : World => W.cell? ⟨w.heap.size, 0, none⟩ = some (.pointer (some ⟨rd, 0, none⟩)) ∧ W.heap[w.heap.size + 1]? = some (.cells #[.string ⟨s.meth.toArray⟩, .string ⟨s.target.toArray⟩, .int .i64 s.minor, (Value.slice af s.fields.length cf), .string ⟨s.body.toArray⟩, .bool cl] 31 (0, 0))) w4 := by assumption
      obtain ⟨xs, ok, h1, h2, h3⟩ := K4.out.outs
      refine wp_append_lies _ _ _ _ (by rfl) 0 31 i0 _ 6 88 Tryz.underlying24 hi hz0 hz1 hz2 rfl (by decide) (Value.slice ao out.length co) out.length xs (by rfl) h1 ⟨gl, 0, none⟩ 1 1 (#[.string ⟨s.meth.toArray⟩, .string ⟨s.target.toArray⟩, .int .i64 s.minor, (Value.slice af s.fields.length cf), .string ⟨s.body.toArray⟩, .bool cl]).toList (by rfl) (by rfl) (fun j u hj => by rw [Addr.add_lit, cell_of_heap L4.out]; simpa using hj) (by simp [Value.oneCell']) (by decide) (by simp only [maxLen]; omega) (by omega) (Nat.zero_le _) _ rfl ?_
      intro g cap w5 hown hgr hat hlt2
      have hbx := K4.out.past K4.out.oO hgr
      have hP := K4.out.pushOut (body := s.body) (cl := cl) h2 h3 hown rfl hgr hat hlt2
      have HP := Lib.hid hP.1
      have HM := Lib.hid (M4.out.trans hP.2)
      have hne : (Value.slice ao out.length co).ownBlock ≠ some (w.heap.size + 1) := fun e => by have := (K0.out.low _ (K0.out.oO _ e).1).2; omega
      have hne0 : (Value.slice ao out.length co).ownBlock ≠ some w.heap.size := fun e => by have := (K0.out.low _ (K0.out.oO _ e).1).2; omega
      have hSx : (fun W : World => W.cell? ⟨w.heap.size, 0, none⟩ = some (.pointer (some ⟨rd, 0, none⟩)) ∧ W.heap[w.heap.size + 1]? = some (.cells #[.string ⟨s.meth.toArray⟩, .string ⟨s.target.toArray⟩, .int .i64 s.minor, (Value.slice af s.fields.length cf), .string ⟨s.body.toArray⟩, .bool cl] 31 (0, 0))) w5 := ⟨(World.cell?_of_block (hgr.block _ (World.block_lt_of_cell? _ _ hSz.1) (fun e => hne0 e.symm))).trans hSz.1, (hgr.block _ (Array.getElem?_eq_some_iff.1 hSz.2).1 (fun e => hne e.symm)).trans hSz.2⟩
      have hgs : g ≠ w.heap.size ∧ g ≠ w.heap.size + 1 := by
        have h5 := (Array.getElem?_eq_some_iff.1 hSz.2).1
        rcases hat with e | e
        · have := (K0.out.low _ (K0.out.oO _ e).1).2; omega
        · omega
      clear hP hown hgr hat h1 h2 h3 hne hne0 hSz
      refine hK.out _ w5 hSx (fun hSy5 => ?_)
      clear hSx
      clear hK K
      try simp only [Act.put, List.setIfInBounds_toArray, List.set_cons_zero, List.set_cons_succ]
      refine wpAnyH_take (i := 8) (oi := { dst := some 33, op := _, type := _, pos := _, after := _, guard := _ }) (v := ?_) rfl (by kernel_rfl) (by kernel_rfl) (by kernel_rfl) (fun _ _ _ h => h) (Or.inl ⟨by kernel_rfl, ?_⟩) (by assumption) ?_
      rotate_left
      · (intro w hSw; (try dsimp only at hSw); go_simp); all_goals (with_reducible rfl)
      try simp only [Act.put, List.setIfInBounds_toArray, List.set_cons_zero, List.set_cons_succ]
      refine wpAnyH_take (i := 9) (oi := { dst := some 34, op := _, type := _, pos := _, after := _, guard := _ }) (v := ?_) rfl (by kernel_rfl) (by kernel_rfl) (by kernel_rfl) (fun _ _ _ h => h) (Or.inl ⟨by kernel_rfl, ?_⟩) (by assumption) ?_
      rotate_left
      · (intro w hSw; (try dsimp only at hSw); go_simp); all_goals (with_reducible rfl)
      try simp only [Act.put, List.setIfInBounds_toArray, List.set_cons_zero, List.set_cons_succ]
      refine wpAnyH_ready (rs := [10]) (by kernel_rfl) (by simp) ?_
      refine (AllReadyH.cons (o := { dst := none, op := _, type := _, pos := _, after := _, guard := _ }) rfl (fun K hK => ?_) AllReadyH.nil)
      rw [if_pos (by kernel_rfl)]
      have q33 : w5.cell? ⟨rd, 3, none⟩ = some (Value.slice ao out.length co) := cell_of_heap hbx
      have f33 : w5.frozen? ⟨rd, 3, none⟩ = false := free_of_heap hbx
      go_wp2_with fail
      have hSx : (fun W : World => W.cell? ⟨w.heap.size, 0, none⟩ = some (.pointer (some ⟨rd, 0, none⟩)) ∧ W.heap[w.heap.size + 1]? = some (.cells #[.string ⟨s.meth.toArray⟩, .string ⟨s.target.toArray⟩, .int .i64 s.minor, (Value.slice af s.fields.length cf), .string ⟨s.body.toArray⟩, .bool cl] 31 (0, 0))) (w5.setCell ⟨rd, 3, none⟩ (.slice (some ⟨g, 0, none⟩) (out.length + 1) cap)) := ⟨(World.cell?_setCell_far _ _ _ _ (by simp only; omega)).trans hSy5.1, (Below.heap_setCell _ _ _ _ (by simp only; omega)).trans hSy5.2⟩
      refine hK.out _ _ hSx (fun hS6 => ?_)
      clear hSx
      clear hK K
      try simp only [Act.put]
      refine wpAnyH_done (by kernel_rfl) ?_ _
      have p6 := hS6.1
      have x6 := hS6.2
      clear q33 f33 hS6 hSy5 hSy hbx
      generalize (w5.setCell ⟨rd, 3, none⟩ (.slice (some ⟨g, 0, none⟩) (out.length + 1) cap)) = w6 at HP HM p6 x6 ⊢
      have hms : ∀ k, (k = w.heap.size ∨ k = w.heap.size + 1) → ¬ ((ms k ∧ ((Value.slice af s.fields.length cf)).ownBlock ≠ some k) ∨ k = g) := fun k hk hm => by
        rcases hm with hm | hm
        · have := (K0.out.low _ hm.1).2; omega
        · omega
      have P6 := Lib.hid p6
      have X6 := Lib.hid x6
      have HMS := Lib.hid hms
      clear x6 hms hgs
      go_wp2_with fail
      refine (begin_any HP.out).mono ?_
      rintro e w7 ⟨rfl, ms7, ⟨vo7, vl7, vf7, vb7, hI7⟩, m7⟩
      have p7 : w7.cell? ⟨w.heap.size, 0, none⟩ = some (.pointer (some ⟨rd, 0, none⟩)) := (World.cell?_of_block (m7.chg.block _ (World.block_lt_of_cell? _ _ P6.out) (HMS.out _ (.inl rfl)))).trans P6.out
      have x7 : w7.heap[w.heap.size + 1]? = some (.cells #[.string ⟨s.meth.toArray⟩, .string ⟨s.target.toArray⟩, .int .i64 s.minor, (Value.slice af s.fields.length cf), .string ⟨s.body.toArray⟩, .bool cl] 31 (0, 0)) := (m7.chg.block _ (Array.getElem?_eq_some_iff.1 X6.out).1 (HMS.out _ (.inr rfl))).trans X6.out
      have y7 : w7.cell? ⟨w.heap.size + 1, 5, none⟩ = some (.bool cl) := cell_of_heap x7
      have q7 : w7.cell? ⟨rd, 2, none⟩ = some (.bool s.done) := cell_of_heap hI7.box
      have f7 : w7.frozen? ⟨rd, 2, none⟩ = false := free_of_heap hI7.box
      have I7 := Lib.hid hI7
      have M7 := Lib.hid m7
      clear hI7 m7 x7
      go_wp2_with fail
      go_end0
      exact ⟨rfl, _, ⟨_, _, _, _, I7.out.set 2 (.bool cl) { s.begin with done := cl } rfl rfl rfl rfl⟩, (HM.out.trans M7.out).trans (I7.out.mvSet 2 _)⟩


end Go.Proofs.YtdilmefeofdkmaaGreatDoor
