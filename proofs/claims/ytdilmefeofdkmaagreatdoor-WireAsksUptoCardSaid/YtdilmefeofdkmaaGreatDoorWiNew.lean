/-
  WIRE: New, Done, Fault, Held. (Printed by wip/gen/winew.py.)
-/
import Derived.Test.YtdilmefeofdkmaaGreatDoorWiFeed
namespace Go.Proofs.YtdilmefeofdkmaaGreatDoor
open Go.RowKit

set_option maxHeartbeats 2000000 in
set_option maxRecDepth 100000 in
theorem begin0_any {w : World} {rd : Nat} (hB : w.heap[rd]? = some (.cells #[.nilFunc, .int .i64 0, .bool false, .slice none 0 0, .slice none 0 0, .int .i64 0, .int .i64 0, .int .i64 0, .string ⟨#[]⟩, .string ⟨#[]⟩, .int .i64 0, .slice none 0 0, .string ⟨#[]⟩, .bool false, .slice none 0 0, .int .i64 0] 67 (0, 0))) :
    Calls Tryz.prog 33 #[.pointer (some ⟨rd, 0, none⟩)] w fun x w' => x = .returned (.tuple #[]) ∧ w'.heap[rd]? = some (.cells (rsZ.cells rd (.slice none 0 0) (.slice none 0 0) (.slice none 0 0) (.slice none 0 0)) 67 (0, 0)) ∧ Chg w w' (fun b => b = rd) := by
  go_enter Tryz.func33, Tryz.ntmps33
  go_upto_region 0 with (fail)
  refine wp_region_heldL_drew (S := (fun W : World => W.heap[rd]? = some (.cells #[.nilFunc, .int .i64 0, .bool false, .slice none 0 0, .slice none 0 0, .int .i64 0, .int .i64 0, .int .i64 0, .string ⟨#[]⟩, .string ⟨#[]⟩, .int .i64 0, .slice none 0 0, .string ⟨#[]⟩, .bool false, .slice none 0 0, .int .i64 0] 67 (0, 0)))) 15 (by kernel_rfl) hB (fun hS0 => ?_)
  refine wpAnyL_take (i := 0) (oi := { dst := some 2, op := _, type := _, pos := _, after := _, guard := _ }) (v := ?_) rfl (by kernel_rfl) (by kernel_rfl) (by kernel_rfl) (by kernel_rfl) (fun _ _ _ h => h) (Or.inl ⟨by kernel_rfl, ?_⟩) (by assumption) ?_
  rotate_left
  · (intro w hSw; (try dsimp only at hSw); go_simp); all_goals (with_reducible rfl)
  try simp only [Act.put, List.setIfInBounds_toArray, List.set_cons_zero, List.set_cons_succ]
  refine wpAnyL_take (i := 1) (oi := { dst := some 3, op := _, type := _, pos := _, after := _, guard := _ }) (v := ?_) rfl (by kernel_rfl) (by kernel_rfl) (by kernel_rfl) (by kernel_rfl) (fun _ _ _ h => h) (Or.inl ⟨by kernel_rfl, ?_⟩) (by assumption) ?_
  rotate_left
  · (intro w hSw; (try dsimp only at hSw); go_simp); all_goals (with_reducible rfl)
  try simp only [Act.put, List.setIfInBounds_toArray, List.set_cons_zero, List.set_cons_succ]
  refine wpAnyL_take (i := 2) (oi := { dst := some 4, op := _, type := _, pos := _, after := _, guard := _ }) (v := ?_) rfl (by kernel_rfl) (by kernel_rfl) (by kernel_rfl) (by kernel_rfl) (fun _ _ _ h => h) (Or.inl ⟨by kernel_rfl, ?_⟩) (by assumption) ?_
  rotate_left
  · (intro w hSw; (try dsimp only at hSw); go_simp); all_goals (with_reducible rfl)
  try simp only [Act.put, List.setIfInBounds_toArray, List.set_cons_zero, List.set_cons_succ]
  refine wpAnyL_take (i := 3) (oi := { dst := some 5, op := _, type := _, pos := _, after := _, guard := _ }) (v := ?_) rfl (by kernel_rfl) (by kernel_rfl) (by kernel_rfl) (by kernel_rfl) (fun _ _ _ h => h) (Or.inl ⟨by kernel_rfl, ?_⟩) (by assumption) ?_
  rotate_left
  · (intro w hSw; (try dsimp only at hSw); go_simp); all_goals (with_reducible rfl)
  try simp only [Act.put, List.setIfInBounds_toArray, List.set_cons_zero, List.set_cons_succ]
  refine wpAnyL_take (i := 4) (oi := { dst := some 6, op := _, type := _, pos := _, after := _, guard := _ }) (v := ?_) rfl (by kernel_rfl) (by kernel_rfl) (by kernel_rfl) (by kernel_rfl) (fun _ _ _ h => h) (Or.inl ⟨by kernel_rfl, ?_⟩) (by assumption) ?_
  rotate_left
  · (intro w hSw; (try dsimp only at hSw); (have h1 := cell_of_heap (x := 1) hSw); (have h2 := cell_of_heap (x := 2) hSw); (have h3 := cell_of_heap (x := 3) hSw); go_simp); all_goals (with_reducible rfl)
  try simp only [Act.put, List.setIfInBounds_toArray, List.set_cons_zero, List.set_cons_succ]
  refine wpAnyL_take (i := 5) (oi := { dst := some 7, op := _, type := _, pos := _, after := _, guard := _ }) (v := ?_) rfl (by kernel_rfl) (by kernel_rfl) (by kernel_rfl) (by kernel_rfl) (fun _ _ _ h => h) (Or.inl ⟨by kernel_rfl, ?_⟩) (by assumption) ?_
  rotate_left
  · (intro w hSw; (try dsimp only at hSw); go_simp); all_goals (with_reducible rfl)
  try simp only [Act.put, List.setIfInBounds_toArray, List.set_cons_zero, List.set_cons_succ]
  refine wpAnyL_take (i := 6) (oi := { dst := some 8, op := _, type := _, pos := _, after := _, guard := _ }) (v := ?_) rfl (by kernel_rfl) (by kernel_rfl) (by kernel_rfl) (by kernel_rfl) (fun _ _ _ h => h) (Or.inl ⟨by kernel_rfl, ?_⟩) (by assumption) ?_
  rotate_left
  · (intro w hSw; (try dsimp only at hSw); go_simp); all_goals (with_reducible rfl)
  try simp only [Act.put, List.setIfInBounds_toArray, List.set_cons_zero, List.set_cons_succ]
  refine wpAnyL_take (i := 7) (oi := { dst := some 9, op := _, type := _, pos := _, after := _, guard := _ }) (v := ?_) rfl (by kernel_rfl) (by kernel_rfl) (by kernel_rfl) (by kernel_rfl) (fun _ _ _ h => h) (Or.inl ⟨by kernel_rfl, ?_⟩) (by assumption) ?_
  rotate_left
  · (intro w hSw; (try dsimp only at hSw); go_simp); all_goals (with_reducible rfl)
  try simp only [Act.put, List.setIfInBounds_toArray, List.set_cons_zero, List.set_cons_succ]
  refine wpAnyL_take (i := 8) (oi := { dst := some 10, op := _, type := _, pos := _, after := _, guard := _ }) (v := ?_) rfl (by kernel_rfl) (by kernel_rfl) (by kernel_rfl) (by kernel_rfl) (fun _ _ _ h => h) (Or.inl ⟨by kernel_rfl, ?_⟩) (by assumption) ?_
  rotate_left
  · (intro w hSw; (try dsimp only at hSw); (have h1 := cell_of_heap (x := 1) hSw); (have h2 := cell_of_heap (x := 2) hSw); (have h3 := cell_of_heap (x := 3) hSw); go_simp); all_goals (with_reducible rfl)
  try simp only [Act.put, List.setIfInBounds_toArray, List.set_cons_zero, List.set_cons_succ]
  refine wpAnyL_take (i := 9) (oi := { dst := some 11, op := _, type := _, pos := _, after := _, guard := _ }) (v := ?_) rfl (by kernel_rfl) (by kernel_rfl) (by kernel_rfl) (by kernel_rfl) (fun _ _ _ h => h) (Or.inl ⟨by kernel_rfl, ?_⟩) (by assumption) ?_
  rotate_left
  · (intro w hSw; (try dsimp only at hSw); go_simp); all_goals (with_reducible rfl)
  try simp only [Act.put, List.setIfInBounds_toArray, List.set_cons_zero, List.set_cons_succ]
  refine wpAnyL_take (i := 10) (oi := { dst := some 12, op := _, type := _, pos := _, after := _, guard := _ }) (v := ?_) rfl (by kernel_rfl) (by kernel_rfl) (by kernel_rfl) (by kernel_rfl) (fun _ _ _ h => h) (Or.inl ⟨by kernel_rfl, ?_⟩) (by assumption) ?_
  rotate_left
  · (intro w hSw; (try dsimp only at hSw); go_simp); all_goals (with_reducible rfl)
  try simp only [Act.put, List.setIfInBounds_toArray, List.set_cons_zero, List.set_cons_succ]
  refine wpAnyL_take (i := 11) (oi := { dst := some 13, op := _, type := _, pos := _, after := _, guard := _ }) (v := ?_) rfl (by kernel_rfl) (by kernel_rfl) (by kernel_rfl) (by kernel_rfl) (fun _ _ _ h => h) (Or.inl ⟨by kernel_rfl, ?_⟩) (by assumption) ?_
  rotate_left
  · (intro w hSw; (try dsimp only at hSw); go_simp); all_goals (with_reducible rfl)
  try simp only [Act.put, List.setIfInBounds_toArray, List.set_cons_zero, List.set_cons_succ]
  refine wpAnyL_take (i := 12) (oi := { dst := some 14, op := _, type := _, pos := _, after := _, guard := _ }) (v := ?_) rfl (by kernel_rfl) (by kernel_rfl) (by kernel_rfl) (by kernel_rfl) (fun _ _ _ h => h) (Or.inl ⟨by kernel_rfl, ?_⟩) (by assumption) ?_
  rotate_left
  · (intro w hSw; (try dsimp only at hSw); (have h1 := cell_of_heap (x := 1) hSw); (have h2 := cell_of_heap (x := 2) hSw); (have h3 := cell_of_heap (x := 3) hSw); go_simp); all_goals (with_reducible rfl)
  try simp only [Act.put, List.setIfInBounds_toArray, List.set_cons_zero, List.set_cons_succ]
  refine wpAnyL_take (i := 13) (oi := { dst := some 15, op := _, type := _, pos := _, after := _, guard := _ }) (v := ?_) rfl (by kernel_rfl) (by kernel_rfl) (by kernel_rfl) (by kernel_rfl) (fun _ _ _ h => h) (Or.inl ⟨by kernel_rfl, ?_⟩) (by assumption) ?_
  rotate_left
  · (intro w hSw; (try dsimp only at hSw); go_simp); all_goals (with_reducible rfl)
  try simp only [Act.put, List.setIfInBounds_toArray, List.set_cons_zero, List.set_cons_succ]
  refine wpAnyL_take (i := 14) (oi := { dst := some 16, op := _, type := _, pos := _, after := _, guard := _ }) (v := ?_) rfl (by kernel_rfl) (by kernel_rfl) (by kernel_rfl) (by kernel_rfl) (fun _ _ _ h => h) (Or.inl ⟨by kernel_rfl, ?_⟩) (by assumption) ?_
  rotate_left
  · (intro w hSw; (try dsimp only at hSw); go_simp); all_goals (with_reducible rfl)
  try simp only [Act.put, List.setIfInBounds_toArray, List.set_cons_zero, List.set_cons_succ]
  refine wpAnyL_ready (rs := [15]) (by kernel_rfl) (by simp) ?_
  refine (AllReadyL.final (o := { dst := none, op := _, type := _, pos := _, after := _, guard := _ }) rfl (fun K hK => ?_))
  rw [if_pos (by kernel_rfl)]
  refine wp_store_row 67 _ _ (by rfl) _ #[.nilFunc, .int .i64 0, .bool false, .slice none 0 0, .slice none 0 0, .int .i64 0, .int .i64 0, .int .i64 0, .string ⟨#[]⟩, .string ⟨#[]⟩, .int .i64 0, .slice none 0 0, .string ⟨#[]⟩, .bool false, .slice none 0 0, .int .i64 0] (by rfl) (by rfl) 67 #[.nilFunc, .int .i64 0, .bool false, .slice none 0 0, .slice none 0 0, .int .i64 0, .int .i64 0, .int .i64 0, .string ⟨#[]⟩, .string ⟨#[]⟩, .int .i64 0, .slice none 0 0, .string ⟨#[]⟩, .bool false, .slice none 0 0, .int .i64 0] (by assumption) (by kernel_rfl) (by kernel_rfl) (by kernel_rfl) ?_
  refine hK.out _ _ ?_
  clear hK K
  try simp only [Act.put]
  refine wpAnyL_done (by kernel_rfl) ?_ _
  have hN : (w.drew.setRow rd #[.nilFunc, .int .i64 0, .bool false, .slice none 0 0, .slice none 0 0, .int .i64 0, .int .i64 0, .int .i64 0, .string ⟨#[]⟩, .string ⟨#[]⟩, .int .i64 0, .slice none 0 0, .string ⟨#[]⟩, .bool false, .slice none 0 0, .int .i64 0]).heap[rd]? = some (.cells #[.nilFunc, .int .i64 0, .bool false, .slice none 0 0, .slice none 0 0, .int .i64 0, .int .i64 0, .int .i64 0, .string ⟨#[]⟩, .string ⟨#[]⟩, .int .i64 0, .slice none 0 0, .string ⟨#[]⟩, .bool false, .slice none 0 0, .int .i64 0] 67 (0, 0)) := setRow_heap _ _ _ _ _ _ hS0
  have f0 : (w.drew.setRow rd #[.nilFunc, .int .i64 0, .bool false, .slice none 0 0, .slice none 0 0, .int .i64 0, .int .i64 0, .int .i64 0, .string ⟨#[]⟩, .string ⟨#[]⟩, .int .i64 0, .slice none 0 0, .string ⟨#[]⟩, .bool false, .slice none 0 0, .int .i64 0]).frozen? ⟨rd, 0, none⟩ = false := free_of_heap hN
  have q0 : (w.drew.setRow rd #[.nilFunc, .int .i64 0, .bool false, .slice none 0 0, .slice none 0 0, .int .i64 0, .int .i64 0, .int .i64 0, .string ⟨#[]⟩, .string ⟨#[]⟩, .int .i64 0, .slice none 0 0, .string ⟨#[]⟩, .bool false, .slice none 0 0, .int .i64 0]).cell? ⟨rd, 0, none⟩ = some .nilFunc := cell_of_heap hN
  have hC : Chg w (w.drew.setRow rd #[.nilFunc, .int .i64 0, .bool false, .slice none 0 0, .slice none 0 0, .int .i64 0, .int .i64 0, .int .i64 0, .string ⟨#[]⟩, .string ⟨#[]⟩, .int .i64 0, .slice none 0 0, .string ⟨#[]⟩, .bool false, .slice none 0 0, .int .i64 0]) (fun b => b = rd) := ⟨rfl, rfl, rfl, by simp [World.setRow], fun k _ hk => setRow_other _ _ _ _ hk⟩
  generalize (w.drew.setRow rd #[.nilFunc, .int .i64 0, .bool false, .slice none 0 0, .slice none 0 0, .int .i64 0, .int .i64 0, .int .i64 0, .string ⟨#[]⟩, .string ⟨#[]⟩, .int .i64 0, .slice none 0 0, .string ⟨#[]⟩, .bool false, .slice none 0 0, .int .i64 0]) = w1 at hN f0 q0 hC ⊢
  have HN := Lib.hid hN
  have HC := Lib.hid hC
  clear hN hC hS0
  go_wp2_with fail
  go_end0
  exact ⟨rfl, by rw [heap_set HN.out]; rfl, HC.out.trans (Chg.set w1 ⟨rd, 0, none⟩ (nextV rd .first))⟩

theorem Glob.big {w : World} (h : Glob w) : 8 ≤ w.heap.size := by
  obtain ⟨te, pe, hv⟩ := h.eran
  have := World.block_lt_of_cell? w _ hv
  simp only at this
  omega
theorem rsZ_wf : WF 0 rsZ := ⟨by decide, by decide, fun _ => by decide, by decide, by decide, by decide, by decide, by decide, by decide, fun h => by cases h <;> contradiction, by decide, by decide, by decide, fun f hf => by cases hf⟩

/-- a new Reader's blocks -/
abbrev ownRd (n : Nat) : Own := ⟨fun b => b = n, fun _ => True⟩

set_option maxHeartbeats 1000000 in
set_option maxRecDepth 100000 in
theorem new_any (w : World) (hG : Glob w) : Calls Tryz.prog 13 #[] w fun e w' => e = .returned (.pointer (some ⟨w.heap.size, 0, none⟩)) ∧ RdrAt w' w.heap.size (ownRd w.heap.size) rsZ [] ∧ Below w.heap.size w w' := by
  have HBG := Lib.hid (begin0_any (w := w.alloc (.cells #[.nilFunc, .int .i64 0, .bool false, .slice none 0 0, .slice none 0 0, .int .i64 0, .int .i64 0, .int .i64 0, .string ⟨#[]⟩, .string ⟨#[]⟩, .int .i64 0, .slice none 0 0, .string ⟨#[]⟩, .bool false, .slice none 0 0, .int .i64 0] 67)) (rd := w.heap.size) (heap_alloc_new _ _))
  have HG := Lib.hid hG
  clear hG
  go_enter Tryz.func13, Tryz.ntmps13
  go_wp2_with fail
  refine HBG.out.mono ?_
  rintro e w2 ⟨rfl, hx, hc⟩
  have HX := Lib.hid hx
  have HC := Lib.hid hc
  clear hx hc
  go_wp2_with fail
  go_ret
  have hB : Below w.heap.size w w2 := (below_alloc (Below.refl _ _) (Nat.le_refl _) _).trans (HC.out.below (by simp) (fun k hk => by omega))
  have hs : w.heap.size < w2.heap.size := (Array.getElem?_eq_some_iff.1 HX.out).1
  refine ⟨rfl, ⟨_, _, _, _, ⟨⟨HG.out.later hB, HX.out, ⟨[], fun _ => False, World.ownsRow_nil _ _ _ _, rfl, fun _ x => x.elim⟩, rfl, (fun b hb => by cases hb), (fun b hb => by rw [show b = w.heap.size from hb]; exact ⟨HG.out.big, hs⟩), ⟨fun _ _ => trivial, fun _ _ => trivial⟩⟩, World.ownsRow_nil _ _ _ _, World.ownsRow_nil _ _ _ _, World.ownsRow_nil _ _ _ _, (fun b hb => by cases hb), (fun b hb => by cases hb), (fun b hb => by cases hb), Dj.nil _, Dj.nil _, Dj.nil _, Dj.nil _, Dj.nil _, Dj.nil _⟩⟩, hB⟩

set_option maxHeartbeats 1000000 in
theorem done_any {w : World} {rd : Nat} {ms : Own} {s : RS} {out : List ReqV} (h : RdrAt w rd ms s out) :
    Calls Tryz.prog 14 #[.pointer (some ⟨rd, 0, none⟩)] w fun e w' => e = .returned (.bool s.done) ∧ w' = w := by
  obtain ⟨vo, vl, vf, vb, hI⟩ := h
  have q2 : w.cell? ⟨rd, 2, none⟩ = some (.bool s.done) := cell_of_heap hI.box
  clear hI
  go_enter Tryz.func14, Tryz.ntmps14
  go_wp2
  go_ret
  exact ⟨rfl, rfl⟩
set_option maxHeartbeats 1000000 in
theorem fault_any {w : World} {rd : Nat} {ms : Own} {s : RS} {out : List ReqV} (h : RdrAt w rd ms s out) :
    Calls Tryz.prog 15 #[.pointer (some ⟨rd, 0, none⟩)] w fun e w' => e = .returned (.int .i64 s.fault) ∧ w' = w := by
  obtain ⟨vo, vl, vf, vb, hI⟩ := h
  have q1 : w.cell? ⟨rd, 1, none⟩ = some (.int .i64 s.fault) := cell_of_heap hI.box
  clear hI
  go_enter Tryz.func15, Tryz.ntmps15
  go_wp2
  go_ret
  exact ⟨rfl, rfl⟩

set_option maxHeartbeats 2000000 in
set_option maxRecDepth 100000 in
theorem held_any {w : World} {rd : Nat} {ms : Own} {s : RS} {out : List ReqV} {N : Nat} (h : RdrAt w rd ms s out) (hw : WF N s) (hN : N ≤ 1000000000) :
    Calls Tryz.prog 17 #[.pointer (some ⟨rd, 0, none⟩)] w fun e w' => e = .returned (.int .i64 s.held) ∧ ∃ n, w' = w.drewN n := by
  have n1 := hw.h0; have n2 := hw.h1; have n3 := hw.line; have n4 := hw.body; have n5 := hw.l0; have n6 := hw.l1
  obtain ⟨vo, vl, vf, vb, hI⟩ := h
  obtain ⟨al, cl, rfl⟩ := row_form hI.line
  obtain ⟨ab, cb, rfl⟩ := row_form hI.body
  have q2 : w.cell? ⟨rd, 2, none⟩ = some (.bool s.done) := cell_of_heap hI.box
  have q4 : w.cell? ⟨rd, 4, none⟩ = some (.slice al s.line.length cl) := cell_of_heap hI.box
  have q5 : w.cell? ⟨rd, 5, none⟩ = some (.int .i64 s.head) := cell_of_heap hI.box
  have q8 : w.cell? ⟨rd, 8, none⟩ = some (.string ⟨s.meth.toArray⟩) := cell_of_heap hI.box
  have q14 : w.cell? ⟨rd, 14, none⟩ = some (.slice ab s.body.length cb) := cell_of_heap hI.box
  have q15 : w.cell? ⟨rd, 15, none⟩ = some (.int .i64 s.left) := cell_of_heap hI.box
  have w1 : IntKind.i64.wrap (s.head + (s.body.length : Int)) = s.head + (s.body.length : Int) := by rw [IntKind.wrap_i64]; omega
  have w2 : IntKind.i64.wrap (s.head + (s.body.length : Int) + (s.line.length : Int)) = s.head + (s.body.length : Int) + (s.line.length : Int) := by rw [IntKind.wrap_i64]; omega
  clear hI hw
  obtain ⟨dn, hdn⟩ : ∃ x, s.done = x := ⟨_, rfl⟩
  rw [hdn] at q2
  go_enter Tryz.func17, Tryz.ntmps17
  cases dn with
  | true =>
    go_wp2
    go_ret
    exact ⟨by unfold RS.held; rw [if_pos hdn]; rfl, 0, rfl⟩
  | false =>
  go_upto_region 3 with (fail)
  refine wp_region_held_drew (S := (fun W : World => W.cell? ⟨rd, 5, none⟩ = some (.int .i64 s.head) ∧ W.cell? ⟨rd, 14, none⟩ = some (.slice ab s.body.length cb))) (by kernel_rfl) ⟨q5, q14⟩ (fun hS0 => ?_)
  refine wpAnyH_take (i := 0) (oi := { dst := some 8, op := _, type := _, pos := _, after := _, guard := _ }) (v := ?_) rfl (by kernel_rfl) (by kernel_rfl) (by kernel_rfl) (fun _ _ _ h => h) (Or.inl ⟨by kernel_rfl, ?_⟩) (by assumption) ?_
  rotate_left
  · (intro w hSw; (try dsimp only at hSw); go_simp); all_goals (with_reducible rfl)
  try simp only [Act.put, List.setIfInBounds_toArray, List.set_cons_zero, List.set_cons_succ]
  refine wpAnyH_take (i := 1) (oi := { dst := some 9, op := _, type := _, pos := _, after := _, guard := _ }) (v := ?_) rfl (by kernel_rfl) (by kernel_rfl) (by kernel_rfl) (fun _ _ _ h => h) (Or.inl ⟨by kernel_rfl, ?_⟩) (by assumption) ?_
  rotate_left
  · (intro w hSw; (try dsimp only at hSw); go_simp); all_goals (with_reducible rfl)
  try simp only [Act.put, List.setIfInBounds_toArray, List.set_cons_zero, List.set_cons_succ]
  refine wpAnyH_take (i := 2) (oi := { dst := some 10, op := _, type := _, pos := _, after := _, guard := _ }) (v := ?_) rfl (by kernel_rfl) (by kernel_rfl) (by kernel_rfl) (fun _ _ _ h => h) (Or.inl ⟨by kernel_rfl, ?_⟩) (by assumption) ?_
  rotate_left
  · (intro w hSw; (try dsimp only at hSw); go_simp); all_goals (with_reducible rfl)
  try simp only [Act.put, List.setIfInBounds_toArray, List.set_cons_zero, List.set_cons_succ]
  refine wpAnyH_take (i := 3) (oi := { dst := some 11, op := _, type := _, pos := _, after := _, guard := _ }) (v := ?_) rfl (by kernel_rfl) (by kernel_rfl) (by kernel_rfl) (fun _ _ _ h => h) (Or.inl ⟨by kernel_rfl, ?_⟩) (by assumption) ?_
  rotate_left
  · (intro w hSw; (try dsimp only at hSw); (obtain ⟨h5, h14⟩ := hSw); go_simp); all_goals (with_reducible rfl)
  try simp only [Act.put, List.setIfInBounds_toArray, List.set_cons_zero, List.set_cons_succ]
  refine wpAnyH_take (i := 4) (oi := { dst := some 12, op := _, type := _, pos := _, after := _, guard := _ }) (v := ?_) rfl (by kernel_rfl) (by kernel_rfl) (by kernel_rfl) (fun _ _ _ h => h) (Or.inl ⟨by kernel_rfl, ?_⟩) (by assumption) ?_
  rotate_left
  · (intro w hSw; (try dsimp only at hSw); go_simp); all_goals (with_reducible rfl)
  try simp only [Act.put, List.setIfInBounds_toArray, List.set_cons_zero, List.set_cons_succ]
  refine wpAnyH_take (i := 5) (oi := { dst := some 13, op := _, type := _, pos := _, after := _, guard := _ }) (v := ?_) rfl (by kernel_rfl) (by kernel_rfl) (by kernel_rfl) (fun _ _ _ h => h) (Or.inl ⟨by kernel_rfl, ?_⟩) (by assumption) ?_
  rotate_left
  · (intro w hSw; (try dsimp only at hSw); go_simp); all_goals (with_reducible rfl)
  try simp only [Act.put, List.setIfInBounds_toArray, List.set_cons_zero, List.set_cons_succ]
  refine wpAnyH_take (i := 6) (oi := { dst := some 14, op := _, type := _, pos := _, after := _, guard := _ }) (v := ?_) rfl (by kernel_rfl) (by kernel_rfl) (by kernel_rfl) (fun _ _ _ h => h) (Or.inl ⟨by kernel_rfl, ?_⟩) (by assumption) ?_
  rotate_left
  · (intro w hSw; (try dsimp only at hSw); go_simp); all_goals (with_reducible rfl)
  try simp only [Act.put, List.setIfInBounds_toArray, List.set_cons_zero, List.set_cons_succ]
  refine wpAnyH_take (i := 7) (oi := { dst := some 15, op := _, type := _, pos := _, after := _, guard := _ }) (v := ?_) rfl (by kernel_rfl) (by kernel_rfl) (by kernel_rfl) (fun _ _ _ h => h) (Or.inl ⟨by kernel_rfl, ?_⟩) (by assumption) ?_
  rotate_left
  · (intro w hSw; (try dsimp only at hSw); (obtain ⟨h5, h14⟩ := hSw); go_simp); all_goals (with_reducible rfl)
  try simp only [Act.put, List.setIfInBounds_toArray, List.set_cons_zero, List.set_cons_succ]
  refine wpAnyH_take (i := 8) (oi := { dst := some 16, op := _, type := _, pos := _, after := _, guard := _ }) (v := ?_) rfl (by kernel_rfl) (by kernel_rfl) (by kernel_rfl) (fun _ _ _ h => h) (Or.inl ⟨by kernel_rfl, ?_⟩) (by assumption) ?_
  rotate_left
  · (intro w hSw; (try dsimp only at hSw); go_simp); all_goals (with_reducible rfl)
  try simp only [Act.put, List.setIfInBounds_toArray, List.set_cons_zero, List.set_cons_succ]
  refine wpAnyH_take (i := 9) (oi := { dst := some 17, op := _, type := _, pos := _, after := _, guard := _ }) (v := ?_) rfl (by kernel_rfl) (by kernel_rfl) (by kernel_rfl) (fun _ _ _ h => h) (Or.inl ⟨by kernel_rfl, ?_⟩) (by assumption) ?_
  rotate_left
  · (intro w hSw; (try dsimp only at hSw); go_simp); all_goals (with_reducible rfl)
  try simp only [Act.put, List.setIfInBounds_toArray, List.set_cons_zero, List.set_cons_succ]
  refine wpAnyH_take (i := 10) (oi := { dst := some 3, op := _, type := _, pos := _, after := _, guard := _ }) (v := ?_) rfl (by kernel_rfl) (by kernel_rfl) (by kernel_rfl) (fun _ _ _ h => h) (Or.inl ⟨by kernel_rfl, ?_⟩) (by assumption) ?_
  rotate_left
  · (intro w hSw; (try dsimp only at hSw); go_simp); all_goals (with_reducible rfl)
  try simp only [Act.put, List.setIfInBounds_toArray, List.set_cons_zero, List.set_cons_succ]
  refine wpAnyH_done (by kernel_rfl) ?_ _
  clear q2
  by_cases hm : s.meth = []
  · have hm1 : (s.meth == []) = true := by rw [hm]; rfl
    have HM := Lib.hid hm
    rw [hm] at q8
    clear hm
    go_wp2_with fail
    go_ret
    refine ⟨?_, 1, rfl⟩
    unfold RS.held
    rw [if_neg (by rw [hdn]; decide), if_neg (fun x => x.1 HM.out)]
    simp [w1]
  · have hm1 : (s.meth == []) = false := by rw [beq_eq_false_iff_ne]; exact hm
    by_cases hl : s.left < 0
    · go_wp2_with fail
      go_ret
      refine ⟨?_, 1, rfl⟩
      unfold RS.held
      rw [if_neg (by rw [hdn]; decide), if_pos ⟨hm, hl⟩]
      first | rfl | (simp [w1, w2]; done)
    · have hl2 : 0 ≤ s.left := by omega
      go_wp2_with fail
      go_ret
      refine ⟨?_, 1, rfl⟩
      unfold RS.held
      rw [if_neg (by rw [hdn]; decide), if_neg (fun x => by have := x.2; omega)]
      simp [w1]

end Go.Proofs.YtdilmefeofdkmaaGreatDoor
