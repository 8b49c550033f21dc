/-
  meta.ReadVersion: the walk. (Printed by wip/gen/mtver.py.)
-/
import Derived.Test.YtajmkkjlhmeolaaGreatDoorMtGrow
import Derived.Test.YtajmkkjlhmeolaaGreatDoorSm29
import Derived.Deep.RegionLaw
import Derived.Deep.LoopGhost
namespace Go.Proofs.YtajmkkjlhmeolaaGreatDoor
open Go.RowKit

theorem info_int : ∃ i, Tryz.prog.info? 3 = some i ∧ i.zero = some (.int .i64 0) ∧ i.size = 1 ∧ i.bytes = 8 :=
  info_parts (show (Tryz.prog.info? 3).map (fun i => (i.zero, i.size, i.bytes)) = some (some (.int .i64 0), 1, 8) by kernel_rfl)
def VerV.cells (p : VerV) (v : Value) : Array Value := #[.int .i64 p.seq, .bool p.null, .bool p.marker, .string ⟨p.etag.toArray⟩, .string ⟨p.type.toArray⟩, .int .i64 p.size, .int .i64 p.when_, v]
def verZ : VerV := ⟨0, false, false, [], [], 0, 0, []⟩
def verZeroC : Array Value := verZ.cells (.slice none 0 0)
def intRows (l : List Int) : List (List Value) := l.map (fun x => [Value.int .i64 x])
theorem intRows_len (l : List Int) : (intRows l).length = l.length := by simp [intRows]
theorem intRows_one (l : List Int) : ∀ r ∈ intRows l, r.length = 1 := by
  intro r hr
  simp only [intRows, List.mem_map] at hr
  obtain ⟨_, _, rfl⟩ := hr
  rfl
theorem slAt_nil (w : World) (sz : Nat) : SlAt w sz (.slice none 0 0) [] := ⟨none, 0, rfl, by simp, fun i r h => by simp at h⟩
theorem RowsAt.form {w wr : World} {b gB : Nat} {f : Fs} {cs zc : Array Value} {T e : TypeId} {sz : Nat} {v : Value} {rows : List (List Value)} (h : RowsAt w wr b gB f cs zc T e sz v rows) : ∃ a c, v = .slice a rows.length c := by
  rcases h.own.2 with ⟨rfl, h0⟩ | ⟨g, cap, cur, rfl, _⟩
  · exact ⟨none, 0, by rw [h0]⟩
  · exact ⟨_, _, rfl⟩

/-- what ReadVersion leaves -/
def VerOut (o : Option VerV) (w : World) (e : Ending) (w' : World) : Prop :=
  ∃ v, e = .returned (.tuple #[.agg ((o.getD verZ).cells v), .int .i64 (if o.isSome then 0 else 59)]) ∧ SlAt w' 1 v (intRows (o.getD verZ).blobs) ∧ Below w.heap.size w w'

set_option maxHeartbeats 8000000 in
set_option maxRecDepth 100000 in
theorem readVer_any (s : List UInt8) (w : World) (hG : GlobK w) (hl : s.length ≤ 140737488351232) : Calls Tryz.prog 27 #[.string ⟨s.toArray⟩] w (VerOut (readVerL s) w) := by
  have HRES : Hid (readVerL s = if doneF ⟨(numsF 1 9007199254740991 (rv9 s).1.toNat (rv9 s).2).2.rest, (numsF 1 9007199254740991 (rv9 s).1.toNat (rv9 s).2).2.bad || ((rv4 s).1 && (decide (0 < (rv7 s).1) || decide (0 < (numsF 1 9007199254740991 (rv9 s).1.toNat (rv9 s).2).1.length) || !((rv5 s).1 ++ (rv6 s).1).isEmpty))⟩ = 0 then some ⟨(rv2 s).1, (rv3 s).1, (rv4 s).1, (rv5 s).1, (rv6 s).1, (rv7 s).1, (rv8 s).1, (numsF 1 9007199254740991 (rv9 s).1.toNat (rv9 s).2).1⟩ else none) := rfl
  have N9 : 0 ≤ (rv9 s).1 ∧ (rv9 s).1 ≤ 20 := by unfold rv9; exact numberF_in (by decide) _
  obtain ⟨res, hres⟩ : ∃ r, Hid (readVerL s = r) := ⟨_, rfl⟩
  rw [hres.out] at HRES ⊢
  clear hres
  have R0 := Lib.hid (RdAt.start hG.g s verZeroC 47)
  obtain ⟨b, hb⟩ : ∃ b, b = w.heap.size + 1 := ⟨_, rfl⟩
  rw [← hb] at R0
  have l1 : (rv1 s).rest.length ≤ 140737488351232 := Nat.le_trans (ofF_len _ _) hl
  have l2 : (rv2 s).2.rest.length ≤ 140737488351232 := by unfold rv2; exact Nat.le_trans (numberF_len 1 9007199254740991 (rv1 s)) l1
  have l3 : (rv3 s).2.rest.length ≤ 140737488351232 := by unfold rv3; exact Nat.le_trans (flagF_len (rv2 s).2) l2
  have l4 : (rv4 s).2.rest.length ≤ 140737488351232 := by unfold rv4; exact Nat.le_trans (flagF_len (rv3 s).2) l3
  have l5 : (rv5 s).2.rest.length ≤ 140737488351232 := by unfold rv5; exact Nat.le_trans ((shortF_len 100 (rv4 s).2).2) l4
  have m5 : (rv5 s).1.length ≤ 140737488351232 := by unfold rv5; exact Nat.le_trans ((shortF_len 100 (rv4 s).2).1) l4
  have l6 : (rv6 s).2.rest.length ≤ 140737488351232 := by unfold rv6; exact Nat.le_trans ((shortF_len 200 (rv5 s).2).2) l5
  have m6 : (rv6 s).1.length ≤ 140737488351232 := by unfold rv6; exact Nat.le_trans ((shortF_len 200 (rv5 s).2).1) l5
  have l7 : (rv7 s).2.rest.length ≤ 140737488351232 := by unfold rv7; exact Nat.le_trans (numberF_len 0 9007199254740991 (rv6 s).2) l6
  have l8 : (rv8 s).2.rest.length ≤ 140737488351232 := by unfold rv8; exact Nat.le_trans (numberF_len 0 253402300799 (rv7 s).2) l7
  have l9 : (rv9 s).2.rest.length ≤ 140737488351232 := by unfold rv9; exact Nat.le_trans (numberF_len 0 20 (rv8 s).2) l8
  have C1 : Hid (∀ W, RdAt w W b ⟨s, false⟩ verZeroC 47 → Calls Tryz.prog 59 #[.pointer (some ⟨b, 0, none⟩), .string ⟨#[86]⟩] W (BoolOut b (!(rv1 s).bad) (rv1 s) W)) := fun W h => of_any b [86] ⟨s, false⟩ W rfl h.glob h.inf hl
  have C2 : Hid (∀ W, RdAt w W b (rv1 s) verZeroC 47 → Calls Tryz.prog 66 #[.pointer (some ⟨b, 0, none⟩)] W (NumOut b (rv2 s).1 (rv2 s).2 W)) := fun W h => seq_any b (rv1 s) W h.glob h.big h.inf l1
  have C3 : Hid (∀ W, RdAt w W b (rv2 s).2 verZeroC 47 → Calls Tryz.prog 64 #[.pointer (some ⟨b, 0, none⟩)] W (BoolOut b (rv3 s).1 (rv3 s).2 W)) := fun W h => flag_any b (rv2 s).2 W h.glob h.big h.inf l2
  have C4 : Hid (∀ W, RdAt w W b (rv3 s).2 verZeroC 47 → Calls Tryz.prog 64 #[.pointer (some ⟨b, 0, none⟩)] W (BoolOut b (rv4 s).1 (rv4 s).2 W)) := fun W h => flag_any b (rv3 s).2 W h.glob h.big h.inf l3
  have C5 : Hid (∀ W, RdAt w W b (rv4 s).2 verZeroC 47 → Calls Tryz.prog 61 #[.pointer (some ⟨b, 0, none⟩), .int .i64 100] W (TextOut b (rv5 s).1 (rv5 s).2 W)) := fun W h => short_any b 100 (rv4 s).2 W (by unfold IntOK; omega) h.glob h.inf l4
  have C6 : Hid (∀ W, RdAt w W b (rv5 s).2 verZeroC 47 → Calls Tryz.prog 61 #[.pointer (some ⟨b, 0, none⟩), .int .i64 200] W (TextOut b (rv6 s).1 (rv6 s).2 W)) := fun W h => short_any b 200 (rv5 s).2 W (by unfold IntOK; omega) h.glob h.inf l5
  have C7 : Hid (∀ W, RdAt w W b (rv6 s).2 verZeroC 47 → Calls Tryz.prog 63 #[.pointer (some ⟨b, 0, none⟩), .int .i64 0, .int .i64 9007199254740991] W (NumOut b (rv7 s).1 (rv7 s).2 W)) := fun W h => number_field_any b 0 9007199254740991 (rv6 s).2 W (by unfold IntOK; omega) (by unfold IntOK; omega) h.glob h.big h.inf l6
  have C8 : Hid (∀ W, RdAt w W b (rv7 s).2 verZeroC 47 → Calls Tryz.prog 62 #[.pointer (some ⟨b, 0, none⟩)] W (NumOut b (rv8 s).1 (rv8 s).2 W)) := fun W h => when_any b (rv7 s).2 W h.glob h.big h.inf l7
  have C9 : Hid (∀ W, RdAt w W b (rv8 s).2 verZeroC 47 → Calls Tryz.prog 63 #[.pointer (some ⟨b, 0, none⟩), .int .i64 0, .int .i64 20] W (NumOut b (rv9 s).1 (rv9 s).2 W)) := fun W h => number_field_any b 0 20 (rv8 s).2 W (by unfold IntOK; omega) (by unfold IntOK; omega) h.glob h.big h.inf l8
  have L9 := Lib.hid l9
  have HOV : Hid (¬ 9223372036854775807 < (rv5 s).1.length + (rv6 s).1.length) := by show ¬ _; omega
  clear m5 m6
  clear l1 l2 l3 l4 l5 l6 l7 l8 l9
  generalize rv1 s = f1 at *
  generalize rv2 s = p2 at *
  generalize rv3 s = p3 at *
  generalize rv4 s = p4 at *
  generalize rv5 s = p5 at *
  generalize rv6 s = p6 at *
  generalize rv7 s = p7 at *
  generalize rv8 s = p8 at *
  generalize rv9 s = p9 at *
  obtain ⟨n2, f2⟩ := p2
  obtain ⟨q3, f3⟩ := p3
  obtain ⟨q4, f4⟩ := p4
  obtain ⟨t5, f5⟩ := p5
  obtain ⟨t6, f6⟩ := p6
  obtain ⟨n7, f7⟩ := p7
  obtain ⟨n8, f8⟩ := p8
  obtain ⟨n9, f9⟩ := p9
  simp only at *
  have HN9 := Lib.hid N9
  clear N9
  have HB := Lib.hid hb
  clear hG
  go_enter Tryz.func27, Tryz.ntmps27
  go_wp2_with fail
  rw [← hb]
  clear hb
  refine (C1.out _ R0.out).mono ?_
  rintro e w1 ⟨rfl, hf1, hg1⟩
  have R1 := Lib.hid (R0.out.next hf1 hg1)
  clear hf1 hg1 R0
  go_wp2_with fail
  go_cut [5] (fun s5 wx => ∃ gB : Nat, s5 = .pointer (some ⟨gB, 0, none⟩) ∧ RdAt w wx b f8 verZeroC 47 ∧ BoxAt w wx gB #[.int .i64 n2, .bool q3, .bool q4, .string ⟨t5.toArray⟩, .string ⟨t6.toArray⟩, .int .i64 n7, .int .i64 n8, .slice none 0 0] 47)
  case first =>
    refine wp_region_held_drew (S := (fun _ => True)) (by kernel_rfl) trivial (fun hS0 => ?_)
    have Rw2 : Hid (RdAt w w1.drew b f1 verZeroC 47) := R1.out.later (Below.refl _ _).drew
    generalize w1.drew = w2 at Rw2 ⊢
    refine wpAnyH_take (i := 0) (oi := { dst := some 13, op := _, type := _, pos := _, after := _, guard := _ }) (v := ?_) rfl (by kernel_rfl) (by kernel_rfl) (by kernel_rfl) (fun _ _ _ h => h) (Or.inl ⟨by kernel_rfl, ?_⟩) (by assumption) ?_
    rotate_left
    · (intro w hSw; (try dsimp only at hSw); go_simp); all_goals (with_reducible rfl)
    try simp only [Act.put, List.setIfInBounds_toArray, List.set_cons_zero, List.set_cons_succ]
    refine wpAnyH_take (i := 2) (oi := { dst := some 15, op := _, type := _, pos := _, after := _, guard := _ }) (v := ?_) rfl (by kernel_rfl) (by kernel_rfl) (by kernel_rfl) (fun _ _ _ h => h) (Or.inl ⟨by kernel_rfl, ?_⟩) (by assumption) ?_
    rotate_left
    · (intro w hSw; (try dsimp only at hSw); go_simp); all_goals (with_reducible rfl)
    try simp only [Act.put, List.setIfInBounds_toArray, List.set_cons_zero, List.set_cons_succ]
    refine wpAnyH_take (i := 3) (oi := { dst := some 16, op := _, type := _, pos := _, after := _, guard := _ }) (v := ?_) rfl (by kernel_rfl) (by kernel_rfl) (by kernel_rfl) (fun _ _ _ h => h) (Or.inl ⟨by kernel_rfl, ?_⟩) (by assumption) ?_
    rotate_left
    · (intro w hSw; (try dsimp only at hSw); go_simp); all_goals (with_reducible rfl)
    try simp only [Act.put, List.setIfInBounds_toArray, List.set_cons_zero, List.set_cons_succ]
    refine wpAnyH_take (i := 4) (oi := { dst := some 17, op := _, type := _, pos := _, after := _, guard := _ }) (v := ?_) rfl (by kernel_rfl) (by kernel_rfl) (by kernel_rfl) (fun _ _ _ h => h) (Or.inl ⟨by kernel_rfl, ?_⟩) (by assumption) ?_
    rotate_left
    · (intro w hSw; (try dsimp only at hSw); go_simp); all_goals (with_reducible rfl)
    try simp only [Act.put, List.setIfInBounds_toArray, List.set_cons_zero, List.set_cons_succ]
    refine wpAnyH_take (i := 6) (oi := { dst := some 19, op := _, type := _, pos := _, after := _, guard := _ }) (v := ?_) rfl (by kernel_rfl) (by kernel_rfl) (by kernel_rfl) (fun _ _ _ h => h) (Or.inl ⟨by kernel_rfl, ?_⟩) (by assumption) ?_
    rotate_left
    · (intro w hSw; (try dsimp only at hSw); go_simp); all_goals (with_reducible rfl)
    try simp only [Act.put, List.setIfInBounds_toArray, List.set_cons_zero, List.set_cons_succ]
    refine wpAnyH_take (i := 7) (oi := { dst := some 20, op := _, type := _, pos := _, after := _, guard := _ }) (v := ?_) rfl (by kernel_rfl) (by kernel_rfl) (by kernel_rfl) (fun _ _ _ h => h) (Or.inl ⟨by kernel_rfl, ?_⟩) (by assumption) ?_
    rotate_left
    · (intro w hSw; (try dsimp only at hSw); go_simp); all_goals (with_reducible rfl)
    try simp only [Act.put, List.setIfInBounds_toArray, List.set_cons_zero, List.set_cons_succ]
    refine wpAnyH_take (i := 8) (oi := { dst := some 21, op := _, type := _, pos := _, after := _, guard := _ }) (v := ?_) rfl (by kernel_rfl) (by kernel_rfl) (by kernel_rfl) (fun _ _ _ h => h) (Or.inl ⟨by kernel_rfl, ?_⟩) (by assumption) ?_
    rotate_left
    · (intro w hSw; (try dsimp only at hSw); go_simp); all_goals (with_reducible rfl)
    try simp only [Act.put, List.setIfInBounds_toArray, List.set_cons_zero, List.set_cons_succ]
    refine wpAnyH_take (i := 10) (oi := { dst := some 23, op := _, type := _, pos := _, after := _, guard := _ }) (v := ?_) rfl (by kernel_rfl) (by kernel_rfl) (by kernel_rfl) (fun _ _ _ h => h) (Or.inl ⟨by kernel_rfl, ?_⟩) (by assumption) ?_
    rotate_left
    · (intro w hSw; (try dsimp only at hSw); go_simp); all_goals (with_reducible rfl)
    try simp only [Act.put, List.setIfInBounds_toArray, List.set_cons_zero, List.set_cons_succ]
    refine wpAnyH_take (i := 11) (oi := { dst := some 24, op := _, type := _, pos := _, after := _, guard := _ }) (v := ?_) rfl (by kernel_rfl) (by kernel_rfl) (by kernel_rfl) (fun _ _ _ h => h) (Or.inl ⟨by kernel_rfl, ?_⟩) (by assumption) ?_
    rotate_left
    · (intro w hSw; (try dsimp only at hSw); go_simp); all_goals (with_reducible rfl)
    try simp only [Act.put, List.setIfInBounds_toArray, List.set_cons_zero, List.set_cons_succ]
    refine wpAnyH_take (i := 12) (oi := { dst := some 25, op := _, type := _, pos := _, after := _, guard := _ }) (v := ?_) rfl (by kernel_rfl) (by kernel_rfl) (by kernel_rfl) (fun _ _ _ h => h) (Or.inl ⟨by kernel_rfl, ?_⟩) (by assumption) ?_
    rotate_left
    · (intro w hSw; (try dsimp only at hSw); go_simp); all_goals (with_reducible rfl)
    try simp only [Act.put, List.setIfInBounds_toArray, List.set_cons_zero, List.set_cons_succ]
    refine wpAnyH_take (i := 14) (oi := { dst := some 27, op := _, type := _, pos := _, after := _, guard := _ }) (v := ?_) rfl (by kernel_rfl) (by kernel_rfl) (by kernel_rfl) (fun _ _ _ h => h) (Or.inl ⟨by kernel_rfl, ?_⟩) (by assumption) ?_
    rotate_left
    · (intro w hSw; (try dsimp only at hSw); go_simp); all_goals (with_reducible rfl)
    try simp only [Act.put, List.setIfInBounds_toArray, List.set_cons_zero, List.set_cons_succ]
    refine wpAnyH_take (i := 15) (oi := { dst := some 28, op := _, type := _, pos := _, after := _, guard := _ }) (v := ?_) rfl (by kernel_rfl) (by kernel_rfl) (by kernel_rfl) (fun _ _ _ h => h) (Or.inl ⟨by kernel_rfl, ?_⟩) (by assumption) ?_
    rotate_left
    · (intro w hSw; (try dsimp only at hSw); go_simp); all_goals (with_reducible rfl)
    try simp only [Act.put, List.setIfInBounds_toArray, List.set_cons_zero, List.set_cons_succ]
    refine wpAnyH_take (i := 16) (oi := { dst := some 29, op := _, type := _, pos := _, after := _, guard := _ }) (v := ?_) rfl (by kernel_rfl) (by kernel_rfl) (by kernel_rfl) (fun _ _ _ h => h) (Or.inl ⟨by kernel_rfl, ?_⟩) (by assumption) ?_
    rotate_left
    · (intro w hSw; (try dsimp only at hSw); go_simp); all_goals (with_reducible rfl)
    try simp only [Act.put, List.setIfInBounds_toArray, List.set_cons_zero, List.set_cons_succ]
    refine wpAnyH_take (i := 18) (oi := { dst := some 31, op := _, type := _, pos := _, after := _, guard := _ }) (v := ?_) rfl (by kernel_rfl) (by kernel_rfl) (by kernel_rfl) (fun _ _ _ h => h) (Or.inl ⟨by kernel_rfl, ?_⟩) (by assumption) ?_
    rotate_left
    · (intro w hSw; (try dsimp only at hSw); go_simp); all_goals (with_reducible rfl)
    try simp only [Act.put, List.setIfInBounds_toArray, List.set_cons_zero, List.set_cons_succ]
    refine wpAnyH_take (i := 19) (oi := { dst := some 32, op := _, type := _, pos := _, after := _, guard := _ }) (v := ?_) rfl (by kernel_rfl) (by kernel_rfl) (by kernel_rfl) (fun _ _ _ h => h) (Or.inl ⟨by kernel_rfl, ?_⟩) (by assumption) ?_
    rotate_left
    · (intro w hSw; (try dsimp only at hSw); go_simp); all_goals (with_reducible rfl)
    try simp only [Act.put, List.setIfInBounds_toArray, List.set_cons_zero, List.set_cons_succ]
    refine wpAnyH_take (i := 20) (oi := { dst := some 33, op := _, type := _, pos := _, after := _, guard := _ }) (v := ?_) rfl (by kernel_rfl) (by kernel_rfl) (by kernel_rfl) (fun _ _ _ h => h) (Or.inl ⟨by kernel_rfl, ?_⟩) (by assumption) ?_
    rotate_left
    · (intro w hSw; (try dsimp only at hSw); go_simp); all_goals (with_reducible rfl)
    try simp only [Act.put, List.setIfInBounds_toArray, List.set_cons_zero, List.set_cons_succ]
    refine wpAnyH_take (i := 22) (oi := { dst := some 35, op := _, type := _, pos := _, after := _, guard := _ }) (v := ?_) rfl (by kernel_rfl) (by kernel_rfl) (by kernel_rfl) (fun _ _ _ h => h) (Or.inl ⟨by kernel_rfl, ?_⟩) (by assumption) ?_
    rotate_left
    · (intro w hSw; (try dsimp only at hSw); go_simp); all_goals (with_reducible rfl)
    try simp only [Act.put, List.setIfInBounds_toArray, List.set_cons_zero, List.set_cons_succ]
    refine wpAnyH_ready (rs := [1, 25]) (by kernel_rfl) (by simp) ?_
    refine (AllReadyH.cons (o := { dst := some 14, op := _, type := _, pos := _, after := _, guard := _ }) rfl (fun K hK => ?_) (AllReadyH.cons (o := { dst := some 5, op := _, type := _, pos := _, after := _, guard := _ }) rfl (fun K hK => ?_) AllReadyH.nil))
    · rw [if_pos (by kernel_rfl)]
      refine wp_call_go Tryz.func66 (by kernel_rfl) (by kernel_rfl) (by rfl) (C2.out _ Rw2.out) (by rfl) ?_
      rintro e v1 ⟨rfl, hfv1, hgv1⟩
      refine ⟨_, rfl, ?_⟩
      have Rv1 := Lib.hid (Rw2.out.next hfv1 hgv1)
      clear hfv1 hgv1 Rw2 C2
      refine hK.out _ _ trivial (fun _ => ?_)
      clear hK K
      try simp only [Act.put, List.setIfInBounds_toArray, List.set_cons_zero, List.set_cons_succ]
      refine wpAnyH_ready (rs := [5, 25]) (by kernel_rfl) (by simp) ?_
      refine (AllReadyH.cons (o := { dst := some 18, op := _, type := _, pos := _, after := _, guard := _ }) rfl (fun K hK => ?_) (AllReadyH.cons (o := { dst := some 5, op := _, type := _, pos := _, after := _, guard := _ }) rfl (fun K hK => ?_) AllReadyH.nil))
      · rw [if_pos (by kernel_rfl)]
        refine wp_call_go Tryz.func64 (by kernel_rfl) (by kernel_rfl) (by rfl) (C3.out _ Rv1.out) (by rfl) ?_
        rintro e v2 ⟨rfl, hfv2, hgv2⟩
        refine ⟨_, rfl, ?_⟩
        have Rv2 := Lib.hid (Rv1.out.next hfv2 hgv2)
        clear hfv2 hgv2 Rv1 C3
        refine hK.out _ _ trivial (fun _ => ?_)
        clear hK K
        try simp only [Act.put, List.setIfInBounds_toArray, List.set_cons_zero, List.set_cons_succ]
        refine wpAnyH_ready (rs := [9, 25]) (by kernel_rfl) (by simp) ?_
        refine (AllReadyH.cons (o := { dst := some 22, op := _, type := _, pos := _, after := _, guard := _ }) rfl (fun K hK => ?_) (AllReadyH.cons (o := { dst := some 5, op := _, type := _, pos := _, after := _, guard := _ }) rfl (fun K hK => ?_) AllReadyH.nil))
        · rw [if_pos (by kernel_rfl)]
          refine wp_call_go Tryz.func64 (by kernel_rfl) (by kernel_rfl) (by rfl) (C4.out _ Rv2.out) (by rfl) ?_
          rintro e v3 ⟨rfl, hfv3, hgv3⟩
          refine ⟨_, rfl, ?_⟩
          have Rv3 := Lib.hid (Rv2.out.next hfv3 hgv3)
          clear hfv3 hgv3 Rv2 C4
          refine hK.out _ _ trivial (fun _ => ?_)
          clear hK K
          try simp only [Act.put, List.setIfInBounds_toArray, List.set_cons_zero, List.set_cons_succ]
          refine wpAnyH_ready (rs := [13, 25]) (by kernel_rfl) (by simp) ?_
          refine (AllReadyH.cons (o := { dst := some 26, op := _, type := _, pos := _, after := _, guard := _ }) rfl (fun K hK => ?_) (AllReadyH.cons (o := { dst := some 5, op := _, type := _, pos := _, after := _, guard := _ }) rfl (fun K hK => ?_) AllReadyH.nil))
          · rw [if_pos (by kernel_rfl)]
            refine wp_call_go Tryz.func61 (by kernel_rfl) (by kernel_rfl) (by rfl) (C5.out _ Rv3.out) (by rfl) ?_
            rintro e v4 ⟨rfl, hfv4, hgv4⟩
            refine ⟨_, rfl, ?_⟩
            have Rv4 := Lib.hid (Rv3.out.next hfv4 hgv4)
            clear hfv4 hgv4 Rv3 C5
            refine hK.out _ _ trivial (fun _ => ?_)
            clear hK K
            try simp only [Act.put, List.setIfInBounds_toArray, List.set_cons_zero, List.set_cons_succ]
            refine wpAnyH_ready (rs := [17, 25]) (by kernel_rfl) (by simp) ?_
            refine (AllReadyH.cons (o := { dst := some 30, op := _, type := _, pos := _, after := _, guard := _ }) rfl (fun K hK => ?_) (AllReadyH.cons (o := { dst := some 5, op := _, type := _, pos := _, after := _, guard := _ }) rfl (fun K hK => ?_) AllReadyH.nil))
            · rw [if_pos (by kernel_rfl)]
              refine wp_call_go Tryz.func61 (by kernel_rfl) (by kernel_rfl) (by rfl) (C6.out _ Rv4.out) (by rfl) ?_
              rintro e v5 ⟨rfl, hfv5, hgv5⟩
              refine ⟨_, rfl, ?_⟩
              have Rv5 := Lib.hid (Rv4.out.next hfv5 hgv5)
              clear hfv5 hgv5 Rv4 C6
              refine hK.out _ _ trivial (fun _ => ?_)
              clear hK K
              try simp only [Act.put, List.setIfInBounds_toArray, List.set_cons_zero, List.set_cons_succ]
              refine wpAnyH_ready (rs := [21, 25]) (by kernel_rfl) (by simp) ?_
              refine (AllReadyH.cons (o := { dst := some 34, op := _, type := _, pos := _, after := _, guard := _ }) rfl (fun K hK => ?_) (AllReadyH.cons (o := { dst := some 5, op := _, type := _, pos := _, after := _, guard := _ }) rfl (fun K hK => ?_) AllReadyH.nil))
              · rw [if_pos (by kernel_rfl)]
                refine wp_call_go Tryz.func63 (by kernel_rfl) (by kernel_rfl) (by rfl) (C7.out _ Rv5.out) (by rfl) ?_
                rintro e v6 ⟨rfl, hfv6, hgv6⟩
                refine ⟨_, rfl, ?_⟩
                have Rv6 := Lib.hid (Rv5.out.next hfv6 hgv6)
                clear hfv6 hgv6 Rv5 C7
                refine hK.out _ _ trivial (fun _ => ?_)
                clear hK K
                try simp only [Act.put, List.setIfInBounds_toArray, List.set_cons_zero, List.set_cons_succ]
                refine wpAnyH_ready (rs := [23, 25]) (by kernel_rfl) (by simp) ?_
                refine (AllReadyH.cons (o := { dst := some 36, op := _, type := _, pos := _, after := _, guard := _ }) rfl (fun K hK => ?_) (AllReadyH.cons (o := { dst := some 5, op := _, type := _, pos := _, after := _, guard := _ }) rfl (fun K hK => ?_) AllReadyH.nil))
                · rw [if_pos (by kernel_rfl)]
                  refine wp_call_go Tryz.func62 (by kernel_rfl) (by kernel_rfl) (by rfl) (C8.out _ Rv6.out) (by rfl) ?_
                  rintro e v7 ⟨rfl, hfv7, hgv7⟩
                  refine ⟨_, rfl, ?_⟩
                  have Rv7 := Lib.hid (Rv6.out.next hfv7 hgv7)
                  clear hfv7 hgv7 Rv6 C8
                  refine hK.out _ _ trivial (fun _ => ?_)
                  clear hK K
                  try simp only [Act.put, List.setIfInBounds_toArray, List.set_cons_zero, List.set_cons_succ]
                  refine wpAnyH_take (i := 24) (oi := { dst := some 37, op := _, type := _, pos := _, after := _, guard := _ }) (v := ?_) rfl (by kernel_rfl) (by kernel_rfl) (by kernel_rfl) (fun _ _ _ h => h) (Or.inl ⟨by kernel_rfl, ?_⟩) (by assumption) ?_
                  rotate_left
                  · (intro w hSw; (try dsimp only at hSw); go_simp); all_goals (with_reducible rfl)
                  try simp only [Act.put, List.setIfInBounds_toArray, List.set_cons_zero, List.set_cons_succ]
                  refine wpAnyH_ready (rs := [25]) (by kernel_rfl) (by simp) ?_
                  refine (AllReadyH.cons (o := { dst := some 5, op := _, type := _, pos := _, after := _, guard := _ }) rfl (fun K hK => ?_) AllReadyH.nil)
                  rw [if_pos (by kernel_rfl)]
                  go_wp2_with fail
                  have Rv8 := Lib.hid (Rv7.out.later (below_alloc (Below.refl _ _) (Nat.le_refl _) (.cells verZeroC 47)))
                  have Xv8 := Lib.hid (BoxAt.new Rv7.out verZeroC 47)
                  refine hK.out _ (v7.alloc (.cells verZeroC 47)) trivial (fun _ => ?_)
                  generalize v7.alloc (.cells verZeroC 47) = v8 at Rv8 Xv8 ⊢
                  generalize v7.heap.size = gB at Xv8 ⊢
                  clear Rv7
                  clear hK K
                  try simp only [Act.put, List.setIfInBounds_toArray, List.set_cons_zero, List.set_cons_succ]
                  refine wpAnyH_ready (rs := [26]) (by kernel_rfl) (by simp) ?_
                  refine (AllReadyH.cons (o := { dst := none, op := _, type := _, pos := _, after := _, guard := _ }) rfl (fun K hK => ?_) AllReadyH.nil)
                  rw [if_pos (by kernel_rfl)]
                  refine wp_store_row 47 _ _ (by rfl) _ #[.int .i64 n2, .bool q3, .bool q4, .string ⟨t5.toArray⟩, .string ⟨t6.toArray⟩, .int .i64 n7, .int .i64 n8, .slice none 0 0] (by rfl) (by rfl) 47 verZeroC (Xv8.out).at_ (by kernel_rfl) (by kernel_rfl) (by kernel_rfl) ?_
                  refine hK.out _ _ trivial (fun _ => ?_)
                  clear hK K
                  try simp only [Act.put]
                  refine wpAnyH_done (by kernel_rfl) ?_ _
                  go_wp2_with fail
                  go_meet
                  case rel => exact ⟨_, rfl, Rv8.out.setRow _ Xv8.out.far, Xv8.out.set _⟩
                · rw [if_pos (by kernel_rfl)]
                  go_wp2_with fail
                  have Rv10 := Lib.hid (Rv6.out.later (below_alloc (Below.refl _ _) (Nat.le_refl _) (.cells verZeroC 47)))
                  have Xv10 := Lib.hid (BoxAt.new Rv6.out verZeroC 47)
                  refine hK.out _ (v6.alloc (.cells verZeroC 47)) trivial (fun _ => ?_)
                  generalize v6.alloc (.cells verZeroC 47) = v10 at Rv10 Xv10 ⊢
                  generalize v6.heap.size = gB at Xv10 ⊢
                  clear Rv6
                  clear hK K
                  try simp only [Act.put, List.setIfInBounds_toArray, List.set_cons_zero, List.set_cons_succ]
                  refine wpAnyH_ready (rs := [23]) (by kernel_rfl) (by simp) ?_
                  refine (AllReadyH.cons (o := { dst := some 36, op := _, type := _, pos := _, after := _, guard := _ }) rfl (fun K hK => ?_) AllReadyH.nil)
                  rw [if_pos (by kernel_rfl)]
                  refine wp_call_go Tryz.func62 (by kernel_rfl) (by kernel_rfl) (by rfl) (C8.out _ Rv10.out) (by rfl) ?_
                  rintro e v11 ⟨rfl, hfv11, hgv11⟩
                  refine ⟨_, rfl, ?_⟩
                  have Rv11 := Lib.hid (Rv10.out.next hfv11 hgv11)
                  have Xv11 := Lib.hid (Xv10.out.next Rv10.out.hb hgv11)
                  clear hfv11 hgv11 Rv10 C8 Xv10
                  refine hK.out _ _ trivial (fun _ => ?_)
                  clear hK K
                  try simp only [Act.put, List.setIfInBounds_toArray, List.set_cons_zero, List.set_cons_succ]
                  refine wpAnyH_take (i := 24) (oi := { dst := some 37, op := _, type := _, pos := _, after := _, guard := _ }) (v := ?_) rfl (by kernel_rfl) (by kernel_rfl) (by kernel_rfl) (fun _ _ _ h => h) (Or.inl ⟨by kernel_rfl, ?_⟩) (by assumption) ?_
                  rotate_left
                  · (intro w hSw; (try dsimp only at hSw); go_simp); all_goals (with_reducible rfl)
                  try simp only [Act.put, List.setIfInBounds_toArray, List.set_cons_zero, List.set_cons_succ]
                  refine wpAnyH_ready (rs := [26]) (by kernel_rfl) (by simp) ?_
                  refine (AllReadyH.cons (o := { dst := none, op := _, type := _, pos := _, after := _, guard := _ }) rfl (fun K hK => ?_) AllReadyH.nil)
                  rw [if_pos (by kernel_rfl)]
                  refine wp_store_row 47 _ _ (by rfl) _ #[.int .i64 n2, .bool q3, .bool q4, .string ⟨t5.toArray⟩, .string ⟨t6.toArray⟩, .int .i64 n7, .int .i64 n8, .slice none 0 0] (by rfl) (by rfl) 47 verZeroC (Xv11.out).at_ (by kernel_rfl) (by kernel_rfl) (by kernel_rfl) ?_
                  refine hK.out _ _ trivial (fun _ => ?_)
                  clear hK K
                  try simp only [Act.put]
                  refine wpAnyH_done (by kernel_rfl) ?_ _
                  go_wp2_with fail
                  go_meet
                  case rel => exact ⟨_, rfl, Rv11.out.setRow _ Xv11.out.far, Xv11.out.set _⟩
              · rw [if_pos (by kernel_rfl)]
                go_wp2_with fail
                have Rv13 := Lib.hid (Rv5.out.later (below_alloc (Below.refl _ _) (Nat.le_refl _) (.cells verZeroC 47)))
                have Xv13 := Lib.hid (BoxAt.new Rv5.out verZeroC 47)
                refine hK.out _ (v5.alloc (.cells verZeroC 47)) trivial (fun _ => ?_)
                generalize v5.alloc (.cells verZeroC 47) = v13 at Rv13 Xv13 ⊢
                generalize v5.heap.size = gB at Xv13 ⊢
                clear Rv5
                clear hK K
                try simp only [Act.put, List.setIfInBounds_toArray, List.set_cons_zero, List.set_cons_succ]
                refine wpAnyH_ready (rs := [21]) (by kernel_rfl) (by simp) ?_
                refine (AllReadyH.cons (o := { dst := some 34, op := _, type := _, pos := _, after := _, guard := _ }) rfl (fun K hK => ?_) AllReadyH.nil)
                rw [if_pos (by kernel_rfl)]
                refine wp_call_go Tryz.func63 (by kernel_rfl) (by kernel_rfl) (by rfl) (C7.out _ Rv13.out) (by rfl) ?_
                rintro e v14 ⟨rfl, hfv14, hgv14⟩
                refine ⟨_, rfl, ?_⟩
                have Rv14 := Lib.hid (Rv13.out.next hfv14 hgv14)
                have Xv14 := Lib.hid (Xv13.out.next Rv13.out.hb hgv14)
                clear hfv14 hgv14 Rv13 C7 Xv13
                refine hK.out _ _ trivial (fun _ => ?_)
                clear hK K
                try simp only [Act.put, List.setIfInBounds_toArray, List.set_cons_zero, List.set_cons_succ]
                refine wpAnyH_ready (rs := [23]) (by kernel_rfl) (by simp) ?_
                refine (AllReadyH.cons (o := { dst := some 36, op := _, type := _, pos := _, after := _, guard := _ }) rfl (fun K hK => ?_) AllReadyH.nil)
                rw [if_pos (by kernel_rfl)]
                refine wp_call_go Tryz.func62 (by kernel_rfl) (by kernel_rfl) (by rfl) (C8.out _ Rv14.out) (by rfl) ?_
                rintro e v15 ⟨rfl, hfv15, hgv15⟩
                refine ⟨_, rfl, ?_⟩
                have Rv15 := Lib.hid (Rv14.out.next hfv15 hgv15)
                have Xv15 := Lib.hid (Xv14.out.next Rv14.out.hb hgv15)
                clear hfv15 hgv15 Rv14 C8 Xv14
                refine hK.out _ _ trivial (fun _ => ?_)
                clear hK K
                try simp only [Act.put, List.setIfInBounds_toArray, List.set_cons_zero, List.set_cons_succ]
                refine wpAnyH_take (i := 24) (oi := { dst := some 37, op := _, type := _, pos := _, after := _, guard := _ }) (v := ?_) rfl (by kernel_rfl) (by kernel_rfl) (by kernel_rfl) (fun _ _ _ h => h) (Or.inl ⟨by kernel_rfl, ?_⟩) (by assumption) ?_
                rotate_left
                · (intro w hSw; (try dsimp only at hSw); go_simp); all_goals (with_reducible rfl)
                try simp only [Act.put, List.setIfInBounds_toArray, List.set_cons_zero, List.set_cons_succ]
                refine wpAnyH_ready (rs := [26]) (by kernel_rfl) (by simp) ?_
                refine (AllReadyH.cons (o := { dst := none, op := _, type := _, pos := _, after := _, guard := _ }) rfl (fun K hK => ?_) AllReadyH.nil)
                rw [if_pos (by kernel_rfl)]
                refine wp_store_row 47 _ _ (by rfl) _ #[.int .i64 n2, .bool q3, .bool q4, .string ⟨t5.toArray⟩, .string ⟨t6.toArray⟩, .int .i64 n7, .int .i64 n8, .slice none 0 0] (by rfl) (by rfl) 47 verZeroC (Xv15.out).at_ (by kernel_rfl) (by kernel_rfl) (by kernel_rfl) ?_
                refine hK.out _ _ trivial (fun _ => ?_)
                clear hK K
                try simp only [Act.put]
                refine wpAnyH_done (by kernel_rfl) ?_ _
                go_wp2_with fail
                go_meet
                case rel => exact ⟨_, rfl, Rv15.out.setRow _ Xv15.out.far, Xv15.out.set _⟩
            · rw [if_pos (by kernel_rfl)]
              go_wp2_with fail
              have Rv17 := Lib.hid (Rv4.out.later (below_alloc (Below.refl _ _) (Nat.le_refl _) (.cells verZeroC 47)))
              have Xv17 := Lib.hid (BoxAt.new Rv4.out verZeroC 47)
              refine hK.out _ (v4.alloc (.cells verZeroC 47)) trivial (fun _ => ?_)
              generalize v4.alloc (.cells verZeroC 47) = v17 at Rv17 Xv17 ⊢
              generalize v4.heap.size = gB at Xv17 ⊢
              clear Rv4
              clear hK K
              try simp only [Act.put, List.setIfInBounds_toArray, List.set_cons_zero, List.set_cons_succ]
              refine wpAnyH_ready (rs := [17]) (by kernel_rfl) (by simp) ?_
              refine (AllReadyH.cons (o := { dst := some 30, op := _, type := _, pos := _, after := _, guard := _ }) rfl (fun K hK => ?_) AllReadyH.nil)
              rw [if_pos (by kernel_rfl)]
              refine wp_call_go Tryz.func61 (by kernel_rfl) (by kernel_rfl) (by rfl) (C6.out _ Rv17.out) (by rfl) ?_
              rintro e v18 ⟨rfl, hfv18, hgv18⟩
              refine ⟨_, rfl, ?_⟩
              have Rv18 := Lib.hid (Rv17.out.next hfv18 hgv18)
              have Xv18 := Lib.hid (Xv17.out.next Rv17.out.hb hgv18)
              clear hfv18 hgv18 Rv17 C6 Xv17
              refine hK.out _ _ trivial (fun _ => ?_)
              clear hK K
              try simp only [Act.put, List.setIfInBounds_toArray, List.set_cons_zero, List.set_cons_succ]
              refine wpAnyH_ready (rs := [21]) (by kernel_rfl) (by simp) ?_
              refine (AllReadyH.cons (o := { dst := some 34, op := _, type := _, pos := _, after := _, guard := _ }) rfl (fun K hK => ?_) AllReadyH.nil)
              rw [if_pos (by kernel_rfl)]
              refine wp_call_go Tryz.func63 (by kernel_rfl) (by kernel_rfl) (by rfl) (C7.out _ Rv18.out) (by rfl) ?_
              rintro e v19 ⟨rfl, hfv19, hgv19⟩
              refine ⟨_, rfl, ?_⟩
              have Rv19 := Lib.hid (Rv18.out.next hfv19 hgv19)
              have Xv19 := Lib.hid (Xv18.out.next Rv18.out.hb hgv19)
              clear hfv19 hgv19 Rv18 C7 Xv18
              refine hK.out _ _ trivial (fun _ => ?_)
              clear hK K
              try simp only [Act.put, List.setIfInBounds_toArray, List.set_cons_zero, List.set_cons_succ]
              refine wpAnyH_ready (rs := [23]) (by kernel_rfl) (by simp) ?_
              refine (AllReadyH.cons (o := { dst := some 36, op := _, type := _, pos := _, after := _, guard := _ }) rfl (fun K hK => ?_) AllReadyH.nil)
              rw [if_pos (by kernel_rfl)]
              refine wp_call_go Tryz.func62 (by kernel_rfl) (by kernel_rfl) (by rfl) (C8.out _ Rv19.out) (by rfl) ?_
              rintro e v20 ⟨rfl, hfv20, hgv20⟩
              refine ⟨_, rfl, ?_⟩
              have Rv20 := Lib.hid (Rv19.out.next hfv20 hgv20)
              have Xv20 := Lib.hid (Xv19.out.next Rv19.out.hb hgv20)
              clear hfv20 hgv20 Rv19 C8 Xv19
              refine hK.out _ _ trivial (fun _ => ?_)
              clear hK K
              try simp only [Act.put, List.setIfInBounds_toArray, List.set_cons_zero, List.set_cons_succ]
              refine wpAnyH_take (i := 24) (oi := { dst := some 37, op := _, type := _, pos := _, after := _, guard := _ }) (v := ?_) rfl (by kernel_rfl) (by kernel_rfl) (by kernel_rfl) (fun _ _ _ h => h) (Or.inl ⟨by kernel_rfl, ?_⟩) (by assumption) ?_
              rotate_left
              · (intro w hSw; (try dsimp only at hSw); go_simp); all_goals (with_reducible rfl)
              try simp only [Act.put, List.setIfInBounds_toArray, List.set_cons_zero, List.set_cons_succ]
              refine wpAnyH_ready (rs := [26]) (by kernel_rfl) (by simp) ?_
              refine (AllReadyH.cons (o := { dst := none, op := _, type := _, pos := _, after := _, guard := _ }) rfl (fun K hK => ?_) AllReadyH.nil)
              rw [if_pos (by kernel_rfl)]
              refine wp_store_row 47 _ _ (by rfl) _ #[.int .i64 n2, .bool q3, .bool q4, .string ⟨t5.toArray⟩, .string ⟨t6.toArray⟩, .int .i64 n7, .int .i64 n8, .slice none 0 0] (by rfl) (by rfl) 47 verZeroC (Xv20.out).at_ (by kernel_rfl) (by kernel_rfl) (by kernel_rfl) ?_
              refine hK.out _ _ trivial (fun _ => ?_)
              clear hK K
              try simp only [Act.put]
              refine wpAnyH_done (by kernel_rfl) ?_ _
              go_wp2_with fail
              go_meet
              case rel => exact ⟨_, rfl, Rv20.out.setRow _ Xv20.out.far, Xv20.out.set _⟩
          · rw [if_pos (by kernel_rfl)]
            go_wp2_with fail
            have Rv22 := Lib.hid (Rv3.out.later (below_alloc (Below.refl _ _) (Nat.le_refl _) (.cells verZeroC 47)))
            have Xv22 := Lib.hid (BoxAt.new Rv3.out verZeroC 47)
            refine hK.out _ (v3.alloc (.cells verZeroC 47)) trivial (fun _ => ?_)
            generalize v3.alloc (.cells verZeroC 47) = v22 at Rv22 Xv22 ⊢
            generalize v3.heap.size = gB at Xv22 ⊢
            clear Rv3
            clear hK K
            try simp only [Act.put, List.setIfInBounds_toArray, List.set_cons_zero, List.set_cons_succ]
            refine wpAnyH_ready (rs := [13]) (by kernel_rfl) (by simp) ?_
            refine (AllReadyH.cons (o := { dst := some 26, op := _, type := _, pos := _, after := _, guard := _ }) rfl (fun K hK => ?_) AllReadyH.nil)
            rw [if_pos (by kernel_rfl)]
            refine wp_call_go Tryz.func61 (by kernel_rfl) (by kernel_rfl) (by rfl) (C5.out _ Rv22.out) (by rfl) ?_
            rintro e v23 ⟨rfl, hfv23, hgv23⟩
            refine ⟨_, rfl, ?_⟩
            have Rv23 := Lib.hid (Rv22.out.next hfv23 hgv23)
            have Xv23 := Lib.hid (Xv22.out.next Rv22.out.hb hgv23)
            clear hfv23 hgv23 Rv22 C5 Xv22
            refine hK.out _ _ trivial (fun _ => ?_)
            clear hK K
            try simp only [Act.put, List.setIfInBounds_toArray, List.set_cons_zero, List.set_cons_succ]
            refine wpAnyH_ready (rs := [17]) (by kernel_rfl) (by simp) ?_
            refine (AllReadyH.cons (o := { dst := some 30, op := _, type := _, pos := _, after := _, guard := _ }) rfl (fun K hK => ?_) AllReadyH.nil)
            rw [if_pos (by kernel_rfl)]
            refine wp_call_go Tryz.func61 (by kernel_rfl) (by kernel_rfl) (by rfl) (C6.out _ Rv23.out) (by rfl) ?_
            rintro e v24 ⟨rfl, hfv24, hgv24⟩
            refine ⟨_, rfl, ?_⟩
            have Rv24 := Lib.hid (Rv23.out.next hfv24 hgv24)
            have Xv24 := Lib.hid (Xv23.out.next Rv23.out.hb hgv24)
            clear hfv24 hgv24 Rv23 C6 Xv23
            refine hK.out _ _ trivial (fun _ => ?_)
            clear hK K
            try simp only [Act.put, List.setIfInBounds_toArray, List.set_cons_zero, List.set_cons_succ]
            refine wpAnyH_ready (rs := [21]) (by kernel_rfl) (by simp) ?_
            refine (AllReadyH.cons (o := { dst := some 34, op := _, type := _, pos := _, after := _, guard := _ }) rfl (fun K hK => ?_) AllReadyH.nil)
            rw [if_pos (by kernel_rfl)]
            refine wp_call_go Tryz.func63 (by kernel_rfl) (by kernel_rfl) (by rfl) (C7.out _ Rv24.out) (by rfl) ?_
            rintro e v25 ⟨rfl, hfv25, hgv25⟩
            refine ⟨_, rfl, ?_⟩
            have Rv25 := Lib.hid (Rv24.out.next hfv25 hgv25)
            have Xv25 := Lib.hid (Xv24.out.next Rv24.out.hb hgv25)
            clear hfv25 hgv25 Rv24 C7 Xv24
            refine hK.out _ _ trivial (fun _ => ?_)
            clear hK K
            try simp only [Act.put, List.setIfInBounds_toArray, List.set_cons_zero, List.set_cons_succ]
            refine wpAnyH_ready (rs := [23]) (by kernel_rfl) (by simp) ?_
            refine (AllReadyH.cons (o := { dst := some 36, op := _, type := _, pos := _, after := _, guard := _ }) rfl (fun K hK => ?_) AllReadyH.nil)
            rw [if_pos (by kernel_rfl)]
            refine wp_call_go Tryz.func62 (by kernel_rfl) (by kernel_rfl) (by rfl) (C8.out _ Rv25.out) (by rfl) ?_
            rintro e v26 ⟨rfl, hfv26, hgv26⟩
            refine ⟨_, rfl, ?_⟩
            have Rv26 := Lib.hid (Rv25.out.next hfv26 hgv26)
            have Xv26 := Lib.hid (Xv25.out.next Rv25.out.hb hgv26)
            clear hfv26 hgv26 Rv25 C8 Xv25
            refine hK.out _ _ trivial (fun _ => ?_)
            clear hK K
            try simp only [Act.put, List.setIfInBounds_toArray, List.set_cons_zero, List.set_cons_succ]
            refine wpAnyH_take (i := 24) (oi := { dst := some 37, op := _, type := _, pos := _, after := _, guard := _ }) (v := ?_) rfl (by kernel_rfl) (by kernel_rfl) (by kernel_rfl) (fun _ _ _ h => h) (Or.inl ⟨by kernel_rfl, ?_⟩) (by assumption) ?_
            rotate_left
            · (intro w hSw; (try dsimp only at hSw); go_simp); all_goals (with_reducible rfl)
            try simp only [Act.put, List.setIfInBounds_toArray, List.set_cons_zero, List.set_cons_succ]
            refine wpAnyH_ready (rs := [26]) (by kernel_rfl) (by simp) ?_
            refine (AllReadyH.cons (o := { dst := none, op := _, type := _, pos := _, after := _, guard := _ }) rfl (fun K hK => ?_) AllReadyH.nil)
            rw [if_pos (by kernel_rfl)]
            refine wp_store_row 47 _ _ (by rfl) _ #[.int .i64 n2, .bool q3, .bool q4, .string ⟨t5.toArray⟩, .string ⟨t6.toArray⟩, .int .i64 n7, .int .i64 n8, .slice none 0 0] (by rfl) (by rfl) 47 verZeroC (Xv26.out).at_ (by kernel_rfl) (by kernel_rfl) (by kernel_rfl) ?_
            refine hK.out _ _ trivial (fun _ => ?_)
            clear hK K
            try simp only [Act.put]
            refine wpAnyH_done (by kernel_rfl) ?_ _
            go_wp2_with fail
            go_meet
            case rel => exact ⟨_, rfl, Rv26.out.setRow _ Xv26.out.far, Xv26.out.set _⟩
        · rw [if_pos (by kernel_rfl)]
          go_wp2_with fail
          have Rv28 := Lib.hid (Rv2.out.later (below_alloc (Below.refl _ _) (Nat.le_refl _) (.cells verZeroC 47)))
          have Xv28 := Lib.hid (BoxAt.new Rv2.out verZeroC 47)
          refine hK.out _ (v2.alloc (.cells verZeroC 47)) trivial (fun _ => ?_)
          generalize v2.alloc (.cells verZeroC 47) = v28 at Rv28 Xv28 ⊢
          generalize v2.heap.size = gB at Xv28 ⊢
          clear Rv2
          clear hK K
          try simp only [Act.put, List.setIfInBounds_toArray, List.set_cons_zero, List.set_cons_succ]
          refine wpAnyH_ready (rs := [9]) (by kernel_rfl) (by simp) ?_
          refine (AllReadyH.cons (o := { dst := some 22, op := _, type := _, pos := _, after := _, guard := _ }) rfl (fun K hK => ?_) AllReadyH.nil)
          rw [if_pos (by kernel_rfl)]
          refine wp_call_go Tryz.func64 (by kernel_rfl) (by kernel_rfl) (by rfl) (C4.out _ Rv28.out) (by rfl) ?_
          rintro e v29 ⟨rfl, hfv29, hgv29⟩
          refine ⟨_, rfl, ?_⟩
          have Rv29 := Lib.hid (Rv28.out.next hfv29 hgv29)
          have Xv29 := Lib.hid (Xv28.out.next Rv28.out.hb hgv29)
          clear hfv29 hgv29 Rv28 C4 Xv28
          refine hK.out _ _ trivial (fun _ => ?_)
          clear hK K
          try simp only [Act.put, List.setIfInBounds_toArray, List.set_cons_zero, List.set_cons_succ]
          refine wpAnyH_ready (rs := [13]) (by kernel_rfl) (by simp) ?_
          refine (AllReadyH.cons (o := { dst := some 26, op := _, type := _, pos := _, after := _, guard := _ }) rfl (fun K hK => ?_) AllReadyH.nil)
          rw [if_pos (by kernel_rfl)]
          refine wp_call_go Tryz.func61 (by kernel_rfl) (by kernel_rfl) (by rfl) (C5.out _ Rv29.out) (by rfl) ?_
          rintro e v30 ⟨rfl, hfv30, hgv30⟩
          refine ⟨_, rfl, ?_⟩
          have Rv30 := Lib.hid (Rv29.out.next hfv30 hgv30)
          have Xv30 := Lib.hid (Xv29.out.next Rv29.out.hb hgv30)
          clear hfv30 hgv30 Rv29 C5 Xv29
          refine hK.out _ _ trivial (fun _ => ?_)
          clear hK K
          try simp only [Act.put, List.setIfInBounds_toArray, List.set_cons_zero, List.set_cons_succ]
          refine wpAnyH_ready (rs := [17]) (by kernel_rfl) (by simp) ?_
          refine (AllReadyH.cons (o := { dst := some 30, op := _, type := _, pos := _, after := _, guard := _ }) rfl (fun K hK => ?_) AllReadyH.nil)
          rw [if_pos (by kernel_rfl)]
          refine wp_call_go Tryz.func61 (by kernel_rfl) (by kernel_rfl) (by rfl) (C6.out _ Rv30.out) (by rfl) ?_
          rintro e v31 ⟨rfl, hfv31, hgv31⟩
          refine ⟨_, rfl, ?_⟩
          have Rv31 := Lib.hid (Rv30.out.next hfv31 hgv31)
          have Xv31 := Lib.hid (Xv30.out.next Rv30.out.hb hgv31)
          clear hfv31 hgv31 Rv30 C6 Xv30
          refine hK.out _ _ trivial (fun _ => ?_)
          clear hK K
          try simp only [Act.put, List.setIfInBounds_toArray, List.set_cons_zero, List.set_cons_succ]
          refine wpAnyH_ready (rs := [21]) (by kernel_rfl) (by simp) ?_
          refine (AllReadyH.cons (o := { dst := some 34, op := _, type := _, pos := _, after := _, guard := _ }) rfl (fun K hK => ?_) AllReadyH.nil)
          rw [if_pos (by kernel_rfl)]
          refine wp_call_go Tryz.func63 (by kernel_rfl) (by kernel_rfl) (by rfl) (C7.out _ Rv31.out) (by rfl) ?_
          rintro e v32 ⟨rfl, hfv32, hgv32⟩
          refine ⟨_, rfl, ?_⟩
          have Rv32 := Lib.hid (Rv31.out.next hfv32 hgv32)
          have Xv32 := Lib.hid (Xv31.out.next Rv31.out.hb hgv32)
          clear hfv32 hgv32 Rv31 C7 Xv31
          refine hK.out _ _ trivial (fun _ => ?_)
          clear hK K
          try simp only [Act.put, List.setIfInBounds_toArray, List.set_cons_zero, List.set_cons_succ]
          refine wpAnyH_ready (rs := [23]) (by kernel_rfl) (by simp) ?_
          refine (AllReadyH.cons (o := { dst := some 36, op := _, type := _, pos := _, after := _, guard := _ }) rfl (fun K hK => ?_) AllReadyH.nil)
          rw [if_pos (by kernel_rfl)]
          refine wp_call_go Tryz.func62 (by kernel_rfl) (by kernel_rfl) (by rfl) (C8.out _ Rv32.out) (by rfl) ?_
          rintro e v33 ⟨rfl, hfv33, hgv33⟩
          refine ⟨_, rfl, ?_⟩
          have Rv33 := Lib.hid (Rv32.out.next hfv33 hgv33)
          have Xv33 := Lib.hid (Xv32.out.next Rv32.out.hb hgv33)
          clear hfv33 hgv33 Rv32 C8 Xv32
          refine hK.out _ _ trivial (fun _ => ?_)
          clear hK K
          try simp only [Act.put, List.setIfInBounds_toArray, List.set_cons_zero, List.set_cons_succ]
          refine wpAnyH_take (i := 24) (oi := { dst := some 37, op := _, type := _, pos := _, after := _, guard := _ }) (v := ?_) rfl (by kernel_rfl) (by kernel_rfl) (by kernel_rfl) (fun _ _ _ h => h) (Or.inl ⟨by kernel_rfl, ?_⟩) (by assumption) ?_
          rotate_left
          · (intro w hSw; (try dsimp only at hSw); go_simp); all_goals (with_reducible rfl)
          try simp only [Act.put, List.setIfInBounds_toArray, List.set_cons_zero, List.set_cons_succ]
          refine wpAnyH_ready (rs := [26]) (by kernel_rfl) (by simp) ?_
          refine (AllReadyH.cons (o := { dst := none, op := _, type := _, pos := _, after := _, guard := _ }) rfl (fun K hK => ?_) AllReadyH.nil)
          rw [if_pos (by kernel_rfl)]
          refine wp_store_row 47 _ _ (by rfl) _ #[.int .i64 n2, .bool q3, .bool q4, .string ⟨t5.toArray⟩, .string ⟨t6.toArray⟩, .int .i64 n7, .int .i64 n8, .slice none 0 0] (by rfl) (by rfl) 47 verZeroC (Xv33.out).at_ (by kernel_rfl) (by kernel_rfl) (by kernel_rfl) ?_
          refine hK.out _ _ trivial (fun _ => ?_)
          clear hK K
          try simp only [Act.put]
          refine wpAnyH_done (by kernel_rfl) ?_ _
          go_wp2_with fail
          go_meet
          case rel => exact ⟨_, rfl, Rv33.out.setRow _ Xv33.out.far, Xv33.out.set _⟩
      · rw [if_pos (by kernel_rfl)]
        go_wp2_with fail
        have Rv35 := Lib.hid (Rv1.out.later (below_alloc (Below.refl _ _) (Nat.le_refl _) (.cells verZeroC 47)))
        have Xv35 := Lib.hid (BoxAt.new Rv1.out verZeroC 47)
        refine hK.out _ (v1.alloc (.cells verZeroC 47)) trivial (fun _ => ?_)
        generalize v1.alloc (.cells verZeroC 47) = v35 at Rv35 Xv35 ⊢
        generalize v1.heap.size = gB at Xv35 ⊢
        clear Rv1
        clear hK K
        try simp only [Act.put, List.setIfInBounds_toArray, List.set_cons_zero, List.set_cons_succ]
        refine wpAnyH_ready (rs := [5]) (by kernel_rfl) (by simp) ?_
        refine (AllReadyH.cons (o := { dst := some 18, op := _, type := _, pos := _, after := _, guard := _ }) rfl (fun K hK => ?_) AllReadyH.nil)
        rw [if_pos (by kernel_rfl)]
        refine wp_call_go Tryz.func64 (by kernel_rfl) (by kernel_rfl) (by rfl) (C3.out _ Rv35.out) (by rfl) ?_
        rintro e v36 ⟨rfl, hfv36, hgv36⟩
        refine ⟨_, rfl, ?_⟩
        have Rv36 := Lib.hid (Rv35.out.next hfv36 hgv36)
        have Xv36 := Lib.hid (Xv35.out.next Rv35.out.hb hgv36)
        clear hfv36 hgv36 Rv35 C3 Xv35
        refine hK.out _ _ trivial (fun _ => ?_)
        clear hK K
        try simp only [Act.put, List.setIfInBounds_toArray, List.set_cons_zero, List.set_cons_succ]
        refine wpAnyH_ready (rs := [9]) (by kernel_rfl) (by simp) ?_
        refine (AllReadyH.cons (o := { dst := some 22, op := _, type := _, pos := _, after := _, guard := _ }) rfl (fun K hK => ?_) AllReadyH.nil)
        rw [if_pos (by kernel_rfl)]
        refine wp_call_go Tryz.func64 (by kernel_rfl) (by kernel_rfl) (by rfl) (C4.out _ Rv36.out) (by rfl) ?_
        rintro e v37 ⟨rfl, hfv37, hgv37⟩
        refine ⟨_, rfl, ?_⟩
        have Rv37 := Lib.hid (Rv36.out.next hfv37 hgv37)
        have Xv37 := Lib.hid (Xv36.out.next Rv36.out.hb hgv37)
        clear hfv37 hgv37 Rv36 C4 Xv36
        refine hK.out _ _ trivial (fun _ => ?_)
        clear hK K
        try simp only [Act.put, List.setIfInBounds_toArray, List.set_cons_zero, List.set_cons_succ]
        refine wpAnyH_ready (rs := [13]) (by kernel_rfl) (by simp) ?_
        refine (AllReadyH.cons (o := { dst := some 26, op := _, type := _, pos := _, after := _, guard := _ }) rfl (fun K hK => ?_) AllReadyH.nil)
        rw [if_pos (by kernel_rfl)]
        refine wp_call_go Tryz.func61 (by kernel_rfl) (by kernel_rfl) (by rfl) (C5.out _ Rv37.out) (by rfl) ?_
        rintro e v38 ⟨rfl, hfv38, hgv38⟩
        refine ⟨_, rfl, ?_⟩
        have Rv38 := Lib.hid (Rv37.out.next hfv38 hgv38)
        have Xv38 := Lib.hid (Xv37.out.next Rv37.out.hb hgv38)
        clear hfv38 hgv38 Rv37 C5 Xv37
        refine hK.out _ _ trivial (fun _ => ?_)
        clear hK K
        try simp only [Act.put, List.setIfInBounds_toArray, List.set_cons_zero, List.set_cons_succ]
        refine wpAnyH_ready (rs := [17]) (by kernel_rfl) (by simp) ?_
        refine (AllReadyH.cons (o := { dst := some 30, op := _, type := _, pos := _, after := _, guard := _ }) rfl (fun K hK => ?_) AllReadyH.nil)
        rw [if_pos (by kernel_rfl)]
        refine wp_call_go Tryz.func61 (by kernel_rfl) (by kernel_rfl) (by rfl) (C6.out _ Rv38.out) (by rfl) ?_
        rintro e v39 ⟨rfl, hfv39, hgv39⟩
        refine ⟨_, rfl, ?_⟩
        have Rv39 := Lib.hid (Rv38.out.next hfv39 hgv39)
        have Xv39 := Lib.hid (Xv38.out.next Rv38.out.hb hgv39)
        clear hfv39 hgv39 Rv38 C6 Xv38
        refine hK.out _ _ trivial (fun _ => ?_)
        clear hK K
        try simp only [Act.put, List.setIfInBounds_toArray, List.set_cons_zero, List.set_cons_succ]
        refine wpAnyH_ready (rs := [21]) (by kernel_rfl) (by simp) ?_
        refine (AllReadyH.cons (o := { dst := some 34, op := _, type := _, pos := _, after := _, guard := _ }) rfl (fun K hK => ?_) AllReadyH.nil)
        rw [if_pos (by kernel_rfl)]
        refine wp_call_go Tryz.func63 (by kernel_rfl) (by kernel_rfl) (by rfl) (C7.out _ Rv39.out) (by rfl) ?_
        rintro e v40 ⟨rfl, hfv40, hgv40⟩
        refine ⟨_, rfl, ?_⟩
        have Rv40 := Lib.hid (Rv39.out.next hfv40 hgv40)
        have Xv40 := Lib.hid (Xv39.out.next Rv39.out.hb hgv40)
        clear hfv40 hgv40 Rv39 C7 Xv39
        refine hK.out _ _ trivial (fun _ => ?_)
        clear hK K
        try simp only [Act.put, List.setIfInBounds_toArray, List.set_cons_zero, List.set_cons_succ]
        refine wpAnyH_ready (rs := [23]) (by kernel_rfl) (by simp) ?_
        refine (AllReadyH.cons (o := { dst := some 36, op := _, type := _, pos := _, after := _, guard := _ }) rfl (fun K hK => ?_) AllReadyH.nil)
        rw [if_pos (by kernel_rfl)]
        refine wp_call_go Tryz.func62 (by kernel_rfl) (by kernel_rfl) (by rfl) (C8.out _ Rv40.out) (by rfl) ?_
        rintro e v41 ⟨rfl, hfv41, hgv41⟩
        refine ⟨_, rfl, ?_⟩
        have Rv41 := Lib.hid (Rv40.out.next hfv41 hgv41)
        have Xv41 := Lib.hid (Xv40.out.next Rv40.out.hb hgv41)
        clear hfv41 hgv41 Rv40 C8 Xv40
        refine hK.out _ _ trivial (fun _ => ?_)
        clear hK K
        try simp only [Act.put, List.setIfInBounds_toArray, List.set_cons_zero, List.set_cons_succ]
        refine wpAnyH_take (i := 24) (oi := { dst := some 37, op := _, type := _, pos := _, after := _, guard := _ }) (v := ?_) rfl (by kernel_rfl) (by kernel_rfl) (by kernel_rfl) (fun _ _ _ h => h) (Or.inl ⟨by kernel_rfl, ?_⟩) (by assumption) ?_
        rotate_left
        · (intro w hSw; (try dsimp only at hSw); go_simp); all_goals (with_reducible rfl)
        try simp only [Act.put, List.setIfInBounds_toArray, List.set_cons_zero, List.set_cons_succ]
        refine wpAnyH_ready (rs := [26]) (by kernel_rfl) (by simp) ?_
        refine (AllReadyH.cons (o := { dst := none, op := _, type := _, pos := _, after := _, guard := _ }) rfl (fun K hK => ?_) AllReadyH.nil)
        rw [if_pos (by kernel_rfl)]
        refine wp_store_row 47 _ _ (by rfl) _ #[.int .i64 n2, .bool q3, .bool q4, .string ⟨t5.toArray⟩, .string ⟨t6.toArray⟩, .int .i64 n7, .int .i64 n8, .slice none 0 0] (by rfl) (by rfl) 47 verZeroC (Xv41.out).at_ (by kernel_rfl) (by kernel_rfl) (by kernel_rfl) ?_
        refine hK.out _ _ trivial (fun _ => ?_)
        clear hK K
        try simp only [Act.put]
        refine wpAnyH_done (by kernel_rfl) ?_ _
        go_wp2_with fail
        go_meet
        case rel => exact ⟨_, rfl, Rv41.out.setRow _ Xv41.out.far, Xv41.out.set _⟩
    · rw [if_pos (by kernel_rfl)]
      go_wp2_with fail
      have Rv43 := Lib.hid (Rw2.out.later (below_alloc (Below.refl _ _) (Nat.le_refl _) (.cells verZeroC 47)))
      have Xv43 := Lib.hid (BoxAt.new Rw2.out verZeroC 47)
      refine hK.out _ (w2.alloc (.cells verZeroC 47)) trivial (fun _ => ?_)
      generalize w2.alloc (.cells verZeroC 47) = v43 at Rv43 Xv43 ⊢
      generalize w2.heap.size = gB at Xv43 ⊢
      clear Rw2
      clear hK K
      try simp only [Act.put, List.setIfInBounds_toArray, List.set_cons_zero, List.set_cons_succ]
      refine wpAnyH_ready (rs := [1]) (by kernel_rfl) (by simp) ?_
      refine (AllReadyH.cons (o := { dst := some 14, op := _, type := _, pos := _, after := _, guard := _ }) rfl (fun K hK => ?_) AllReadyH.nil)
      rw [if_pos (by kernel_rfl)]
      refine wp_call_go Tryz.func66 (by kernel_rfl) (by kernel_rfl) (by rfl) (C2.out _ Rv43.out) (by rfl) ?_
      rintro e v44 ⟨rfl, hfv44, hgv44⟩
      refine ⟨_, rfl, ?_⟩
      have Rv44 := Lib.hid (Rv43.out.next hfv44 hgv44)
      have Xv44 := Lib.hid (Xv43.out.next Rv43.out.hb hgv44)
      clear hfv44 hgv44 Rv43 C2 Xv43
      refine hK.out _ _ trivial (fun _ => ?_)
      clear hK K
      try simp only [Act.put, List.setIfInBounds_toArray, List.set_cons_zero, List.set_cons_succ]
      refine wpAnyH_ready (rs := [5]) (by kernel_rfl) (by simp) ?_
      refine (AllReadyH.cons (o := { dst := some 18, op := _, type := _, pos := _, after := _, guard := _ }) rfl (fun K hK => ?_) AllReadyH.nil)
      rw [if_pos (by kernel_rfl)]
      refine wp_call_go Tryz.func64 (by kernel_rfl) (by kernel_rfl) (by rfl) (C3.out _ Rv44.out) (by rfl) ?_
      rintro e v45 ⟨rfl, hfv45, hgv45⟩
      refine ⟨_, rfl, ?_⟩
      have Rv45 := Lib.hid (Rv44.out.next hfv45 hgv45)
      have Xv45 := Lib.hid (Xv44.out.next Rv44.out.hb hgv45)
      clear hfv45 hgv45 Rv44 C3 Xv44
      refine hK.out _ _ trivial (fun _ => ?_)
      clear hK K
      try simp only [Act.put, List.setIfInBounds_toArray, List.set_cons_zero, List.set_cons_succ]
      refine wpAnyH_ready (rs := [9]) (by kernel_rfl) (by simp) ?_
      refine (AllReadyH.cons (o := { dst := some 22, op := _, type := _, pos := _, after := _, guard := _ }) rfl (fun K hK => ?_) AllReadyH.nil)
      rw [if_pos (by kernel_rfl)]
      refine wp_call_go Tryz.func64 (by kernel_rfl) (by kernel_rfl) (by rfl) (C4.out _ Rv45.out) (by rfl) ?_
      rintro e v46 ⟨rfl, hfv46, hgv46⟩
      refine ⟨_, rfl, ?_⟩
      have Rv46 := Lib.hid (Rv45.out.next hfv46 hgv46)
      have Xv46 := Lib.hid (Xv45.out.next Rv45.out.hb hgv46)
      clear hfv46 hgv46 Rv45 C4 Xv45
      refine hK.out _ _ trivial (fun _ => ?_)
      clear hK K
      try simp only [Act.put, List.setIfInBounds_toArray, List.set_cons_zero, List.set_cons_succ]
      refine wpAnyH_ready (rs := [13]) (by kernel_rfl) (by simp) ?_
      refine (AllReadyH.cons (o := { dst := some 26, op := _, type := _, pos := _, after := _, guard := _ }) rfl (fun K hK => ?_) AllReadyH.nil)
      rw [if_pos (by kernel_rfl)]
      refine wp_call_go Tryz.func61 (by kernel_rfl) (by kernel_rfl) (by rfl) (C5.out _ Rv46.out) (by rfl) ?_
      rintro e v47 ⟨rfl, hfv47, hgv47⟩
      refine ⟨_, rfl, ?_⟩
      have Rv47 := Lib.hid (Rv46.out.next hfv47 hgv47)
      have Xv47 := Lib.hid (Xv46.out.next Rv46.out.hb hgv47)
      clear hfv47 hgv47 Rv46 C5 Xv46
      refine hK.out _ _ trivial (fun _ => ?_)
      clear hK K
      try simp only [Act.put, List.setIfInBounds_toArray, List.set_cons_zero, List.set_cons_succ]
      refine wpAnyH_ready (rs := [17]) (by kernel_rfl) (by simp) ?_
      refine (AllReadyH.cons (o := { dst := some 30, op := _, type := _, pos := _, after := _, guard := _ }) rfl (fun K hK => ?_) AllReadyH.nil)
      rw [if_pos (by kernel_rfl)]
      refine wp_call_go Tryz.func61 (by kernel_rfl) (by kernel_rfl) (by rfl) (C6.out _ Rv47.out) (by rfl) ?_
      rintro e v48 ⟨rfl, hfv48, hgv48⟩
      refine ⟨_, rfl, ?_⟩
      have Rv48 := Lib.hid (Rv47.out.next hfv48 hgv48)
      have Xv48 := Lib.hid (Xv47.out.next Rv47.out.hb hgv48)
      clear hfv48 hgv48 Rv47 C6 Xv47
      refine hK.out _ _ trivial (fun _ => ?_)
      clear hK K
      try simp only [Act.put, List.setIfInBounds_toArray, List.set_cons_zero, List.set_cons_succ]
      refine wpAnyH_ready (rs := [21]) (by kernel_rfl) (by simp) ?_
      refine (AllReadyH.cons (o := { dst := some 34, op := _, type := _, pos := _, after := _, guard := _ }) rfl (fun K hK => ?_) AllReadyH.nil)
      rw [if_pos (by kernel_rfl)]
      refine wp_call_go Tryz.func63 (by kernel_rfl) (by kernel_rfl) (by rfl) (C7.out _ Rv48.out) (by rfl) ?_
      rintro e v49 ⟨rfl, hfv49, hgv49⟩
      refine ⟨_, rfl, ?_⟩
      have Rv49 := Lib.hid (Rv48.out.next hfv49 hgv49)
      have Xv49 := Lib.hid (Xv48.out.next Rv48.out.hb hgv49)
      clear hfv49 hgv49 Rv48 C7 Xv48
      refine hK.out _ _ trivial (fun _ => ?_)
      clear hK K
      try simp only [Act.put, List.setIfInBounds_toArray, List.set_cons_zero, List.set_cons_succ]
      refine wpAnyH_ready (rs := [23]) (by kernel_rfl) (by simp) ?_
      refine (AllReadyH.cons (o := { dst := some 36, op := _, type := _, pos := _, after := _, guard := _ }) rfl (fun K hK => ?_) AllReadyH.nil)
      rw [if_pos (by kernel_rfl)]
      refine wp_call_go Tryz.func62 (by kernel_rfl) (by kernel_rfl) (by rfl) (C8.out _ Rv49.out) (by rfl) ?_
      rintro e v50 ⟨rfl, hfv50, hgv50⟩
      refine ⟨_, rfl, ?_⟩
      have Rv50 := Lib.hid (Rv49.out.next hfv50 hgv50)
      have Xv50 := Lib.hid (Xv49.out.next Rv49.out.hb hgv50)
      clear hfv50 hgv50 Rv49 C8 Xv49
      refine hK.out _ _ trivial (fun _ => ?_)
      clear hK K
      try simp only [Act.put, List.setIfInBounds_toArray, List.set_cons_zero, List.set_cons_succ]
      refine wpAnyH_take (i := 24) (oi := { dst := some 37, op := _, type := _, pos := _, after := _, guard := _ }) (v := ?_) rfl (by kernel_rfl) (by kernel_rfl) (by kernel_rfl) (fun _ _ _ h => h) (Or.inl ⟨by kernel_rfl, ?_⟩) (by assumption) ?_
      rotate_left
      · (intro w hSw; (try dsimp only at hSw); go_simp); all_goals (with_reducible rfl)
      try simp only [Act.put, List.setIfInBounds_toArray, List.set_cons_zero, List.set_cons_succ]
      refine wpAnyH_ready (rs := [26]) (by kernel_rfl) (by simp) ?_
      refine (AllReadyH.cons (o := { dst := none, op := _, type := _, pos := _, after := _, guard := _ }) rfl (fun K hK => ?_) AllReadyH.nil)
      rw [if_pos (by kernel_rfl)]
      refine wp_store_row 47 _ _ (by rfl) _ #[.int .i64 n2, .bool q3, .bool q4, .string ⟨t5.toArray⟩, .string ⟨t6.toArray⟩, .int .i64 n7, .int .i64 n8, .slice none 0 0] (by rfl) (by rfl) 47 verZeroC (Xv50.out).at_ (by kernel_rfl) (by kernel_rfl) (by kernel_rfl) ?_
      refine hK.out _ _ trivial (fun _ => ?_)
      clear hK K
      try simp only [Act.put]
      refine wpAnyH_done (by kernel_rfl) ?_ _
      go_wp2_with fail
      go_meet
      case rel => exact ⟨_, rfl, Rv50.out.setRow _ Xv50.out.far, Xv50.out.set _⟩
  case rest =>
    obtain ⟨gB, rfl, hR, hX⟩ := hcut
    obtain ⟨wx, rfl⟩ : ∃ wx : World, wx = wc := ⟨_, rfl⟩
    have RX := Lib.hid hR
    have XX := Lib.hid hX
    clear hR hX
    clear C1 C2 C3 C4 C5 C6 C7 C8 R1
    go_wp2_with fail
    refine (C9.out _ RX.out).mono ?_
    rintro e w9 ⟨rfl, hf9, hg9⟩
    have R9 := Lib.hid (RX.out.next hf9 hg9)
    have X9 := Lib.hid (XX.out.next RX.out.hb hg9)
    clear hf9 hg9 RX XX C9
    obtain ⟨N, rfl⟩ := Int.eq_ofNat_of_zero_le HN9.out.1
    have hN20 : N ≤ 20 := by have := HN9.out.2; omega
    simp only [Int.toNat_natCast] at HRES
    obtain ⟨i0, hi, hz0, hz1, hz2⟩ := info_int
    go_wp2
    go_loopg [42] N (fun gg s42 wr => ∃ (i : Nat) (v : Value), i ≤ N ∧ N - i ≤ gg ∧ s42 = .int .i64 i ∧ Hid (RowsAt w wr b gB (numsF 1 9007199254740991 i f9).2 #[.int .i64 n2, .bool q3, .bool q4, .string ⟨t5.toArray⟩, .string ⟨t6.toArray⟩, .int .i64 n7, .int .i64 n8, v] verZeroC 47 3 1 v (intRows (numsF 1 9007199254740991 i f9).1)))
    case atStart => exact ⟨0, .slice none 0 0, by omega, by omega, rfl, ⟨R9.out, X9.out, World.ownsRow_nil _ _ _ _⟩⟩
    case round =>
      obtain ⟨i, v, hiN, hgg, rfl, K⟩ := hrel
      clear R9 X9
      obtain ⟨⟨l, f⟩, hP⟩ : ∃ p, numsF 1 9007199254740991 i f9 = p := ⟨_, rfl⟩
      have hlen : l.length = i := by have := numsF_size 1 9007199254740991 i f9; rw [hP] at this; exact this
      have hfl : f.rest.length ≤ 140737488351232 := by have := numsF_len 1 9007199254740991 i f9; rw [hP] at this; exact Nat.le_trans this L9.out
      rw [hP] at K
      simp only at K
      by_cases hlt : i < N
      · have hltz : (i : Int) < (N : Int) := by omega
        have HP := Lib.hid hP
        have S9 := Lib.hid (fun W (h : RdAt w W b f verZeroC 47) => seq_any b f W h.glob h.big h.inf hfl)
        obtain ⟨⟨n, f'⟩, hnf⟩ : ∃ p, numberF 1 9007199254740991 f = p := ⟨_, rfl⟩
        rw [hnf] at S9
        have HNF := Lib.hid hnf
        obtain ⟨rows, hrows⟩ : ∃ rs, intRows l = rs := ⟨_, rfl⟩
        have hrl : rows.length = i := by rw [← hrows, intRows_len, hlen]
        rw [hrows] at K
        have HROWS := Lib.hid hrows
        clear hP hnf hfl hrows
        have c7 : wr.cell? ⟨gB, 7, none⟩ = some v := cell_of_heap K.out.box.at_
        go_wp2_with fail
        go_region_law (first
          | (rw [if_pos (by kernel_rfl)]
             go_wp2_with fail
             refine (S9.out _ (K.out.rd.later (Below.refl _ _).drew)).mono ?_
             rintro e wC ⟨rfl, hfC, hgC⟩
             have K2 := Lib.hid ((K.out.later (Below.refl _ _).drew).next hfC hgC)
             clear hfC hgC
             have r7 : wC.cell? ⟨gB, 7, none⟩ = some v := cell_of_heap K2.out.box.at_
             have p7 : (wC.alloc (.cells #[.int .i64 n] 3)).cell? ⟨gB, 7, none⟩ = some v := cell_past _ r7
             have hlC := K2.out.box.lt
             go_wp2_with fail)
          | (refine step_append_lies _ (by rfl) _ _ _ (by rfl) (gB + 1) 3 i0 _ 1 8 Tryz.underlying45 hi hz0 hz1 hz2 rfl (by decide) v rows.length rows.flatten (by rfl) (K2.out.own.alloc _) ⟨wC.heap.size, 0, none⟩ 1 1 [.int .i64 n] (by rfl) (by rfl) (fun j u hj => cells_new _ _ _ _ _ (by simpa using hj)) (by simp [Value.oneCell']) (by decide) (by simp only [maxLen]; omega) (by omega) (by simp; omega) _ rfl ?_
             intro g cap wA hown hgr hat hlt3
             have K3 := Lib.hid (K2.out.later (below_alloc (Below.refl _ _) (Nat.le_refl _) (.cells #[.int .i64 n] 3)))
             have K4 := Lib.hid (K3.out.push (o := 7) hown hgr)
             have hvB : v.ownBlock ≠ some gB := K3.out.notB
             have s7 : wA.cell? ⟨gB, 7, none⟩ = some v := cell_of_heap (K3.out.box.grown hgr hvB).at_
             have sf : wA.frozen? ⟨gB, 7, none⟩ = false := free_of_heap (K3.out.box.grown hgr hvB).at_
             clear hown hgr hat hvB))
        all_goals
          go_wp2
          go_roundg (N - (i + 1))
          case measure => omega
          case rel =>
            refine ⟨i + 1, .slice (some ⟨g, 0, none⟩) (i + 1) cap, by omega, Nat.le_refl _, by go_num, ?_⟩
            have e1 : numsF 1 9007199254740991 (i + 1) f9 = (l ++ [n], f') := by rw [numsF_snoc, HP.out]; simp only; rw [HNF.out]
            have e2 : intRows (l ++ [n]) = rows ++ [[.int .i64 n]] := by rw [← HROWS.out]; simp [intRows]
            rw [e1]
            simp only
            rw [e2]
            have h4 := K4.out
            rw [hrl] at h4
            exact h4
      · obtain rfl : i = N := by omega
        simp only [hP] at HRES
        clear hP hfl
        obtain ⟨rows, hrows⟩ : ∃ rs, intRows l = rs := ⟨_, rfl⟩
        have hrl : rows.length = i := by rw [← hrows, intRows_len, hlen]
        have hone := intRows_one l
        rw [hrows] at K hone
        have HROWS := Lib.hid hrows
        have HONE := Lib.hid hone
        clear hrows hone
        obtain ⟨a, c, rfl⟩ := K.out.form
        rw [hrl] at K
        rw [hlen] at HRES
        have HLEN := Lib.hid hlen
        have HRL := Lib.hid hrl
        clear hlen hrl
        obtain ⟨rs, bd⟩ := f
        simp only at HRES
        have hov : ¬ 9223372036854775807 < t5.length + t6.length := HOV.out
        cases bd with
        | true =>
          simp only [Bool.true_or] at HRES
          have q1 : wr.cell? ⟨b, 1, none⟩ = some (.bool true) := cell_of_heap K.out.rd.inf
          have q2 : wr.frozen? ⟨b, 1, none⟩ = false := free_of_heap K.out.rd.inf
          have q0 : wr.cell? ⟨gB, 2, none⟩ = some (.bool q4) := cell_of_heap K.out.box.at_
          have c3 : wr.cell? ⟨gB, 3, none⟩ = some (.string ⟨t5.toArray⟩) := cell_of_heap K.out.box.at_
          have c4 : wr.cell? ⟨gB, 4, none⟩ = some (.string ⟨t6.toArray⟩) := cell_of_heap K.out.box.at_
          have c5 : wr.cell? ⟨gB, 5, none⟩ = some (.int .i64 n7) := cell_of_heap K.out.box.at_
          have c7 : wr.cell? ⟨gB, 7, none⟩ = some (.slice a i c) := cell_of_heap K.out.box.at_
          go_wp2_with fail
          clear q1 q2 q0 c3 c4 c5 c7
          have KF := Lib.hid (K.out.flag true)
          refine (done_any b ⟨rs, true⟩ _ (KF.out.rd).inf).mono ?_
          rintro e w' ⟨rfl, rfl⟩
          have HRX := Lib.hid (KF.out.rd).rb
          have HXX := Lib.hid (KF.out.box).at_
          have HBX := Lib.hid (KF.out.rd).below
          rcases doneF_cases ⟨rs, true⟩ with h0 | h0
          · have HR2 : Hid (res = some ⟨n2, q3, q4, t5, t6, n7, n8, l⟩) := by show _ = _; rw [HRES.out]; exact if_pos h0
            rw [h0]
            clear h0
            go_wp2_with (first
              | (refine wpList_load_row (by rfl) 47 _ (by rfl) gB (by rfl) 47 _ (0, 0) _ (by exact HXX.out) Tryz.underlying47 rfl (by kernel_rfl) ?_)
              | (refine wpList_store_row (by rfl) 47 _ _ (by rfl) w.heap.size _ (by rfl) (by rfl) 47 _ (by exact HRX.out) (by kernel_rfl) (by kernel_rfl) (by kernel_rfl) ?_))
            refine bodyPost_ret (results_cell_tmp rfl _ _ w.heap.size 47 _ _ rfl (setRow_heap _ _ _ _ _ _ HRX.out) Tryz.underlying47 rfl (by kernel_rfl)) rfl ?_
            rw [HR2.out]
            refine ⟨_, rfl, ?_, below_one_row _ _ _ _ _ HBX.out (Nat.le_refl _)⟩
            show SlAt _ 1 _ (intRows l)
            rw [HROWS.out]
            have ho := KF.out.own
            have h1 := HRL.out
            rw [← h1]
            rw [← h1] at ho
            exact own_slAt (own_kept ho fun g h1 _ => setRow_other _ _ _ _ (by have := KF.out.box.far; omega)) HONE.out (by omega)
          · have HR2 : Hid (res = none) := by show _ = _; rw [HRES.out]; exact if_neg (fun h => by rw [h0] at h; exact absurd h (by decide))
            rw [h0]
            clear h0
            go_wp2_with (refine wpList_store_row (by rfl) 47 _ _ (by rfl) w.heap.size _ (by rfl) (by rfl) 47 _ (by exact HRX.out) (by kernel_rfl) (by kernel_rfl) (by kernel_rfl) ?_)
            refine bodyPost_ret (results_cell_tmp rfl _ _ w.heap.size 47 _ _ rfl (setRow_heap _ _ _ _ _ _ HRX.out) Tryz.underlying47 rfl (by kernel_rfl)) rfl ?_
            rw [HR2.out]
            exact ⟨.slice none 0 0, rfl, slAt_nil _ _, below_one_row _ _ _ _ _ HBX.out (Nat.le_refl _)⟩
        | false =>
          simp only [Bool.false_or] at HRES
          cases q4 with
          | false =>
            simp only [Bool.false_and] at HRES
            have q1 : wr.cell? ⟨b, 1, none⟩ = some (.bool false) := cell_of_heap K.out.rd.inf
            have q2 : wr.frozen? ⟨b, 1, none⟩ = false := free_of_heap K.out.rd.inf
            have q0 : wr.cell? ⟨gB, 2, none⟩ = some (.bool false) := cell_of_heap K.out.box.at_
            have c3 : wr.cell? ⟨gB, 3, none⟩ = some (.string ⟨t5.toArray⟩) := cell_of_heap K.out.box.at_
            have c4 : wr.cell? ⟨gB, 4, none⟩ = some (.string ⟨t6.toArray⟩) := cell_of_heap K.out.box.at_
            have c5 : wr.cell? ⟨gB, 5, none⟩ = some (.int .i64 n7) := cell_of_heap K.out.box.at_
            have c7 : wr.cell? ⟨gB, 7, none⟩ = some (.slice a i c) := cell_of_heap K.out.box.at_
            go_wp2_with fail
            clear q1 q2 q0 c3 c4 c5 c7
            have KF := Lib.hid (K.out.flag false)
            refine (done_any b ⟨rs, false⟩ _ (KF.out.rd).inf).mono ?_
            rintro e w' ⟨rfl, rfl⟩
            have HRX := Lib.hid (KF.out.rd).rb
            have HXX := Lib.hid (KF.out.box).at_
            have HBX := Lib.hid (KF.out.rd).below
            rcases doneF_cases ⟨rs, false⟩ with h0 | h0
            · have HR2 : Hid (res = some ⟨n2, q3, false, t5, t6, n7, n8, l⟩) := by show _ = _; rw [HRES.out]; exact if_pos h0
              rw [h0]
              clear h0
              go_wp2_with (first
                | (refine wpList_load_row (by rfl) 47 _ (by rfl) gB (by rfl) 47 _ (0, 0) _ (by exact HXX.out) Tryz.underlying47 rfl (by kernel_rfl) ?_)
                | (refine wpList_store_row (by rfl) 47 _ _ (by rfl) w.heap.size _ (by rfl) (by rfl) 47 _ (by exact HRX.out) (by kernel_rfl) (by kernel_rfl) (by kernel_rfl) ?_))
              refine bodyPost_ret (results_cell_tmp rfl _ _ w.heap.size 47 _ _ rfl (setRow_heap _ _ _ _ _ _ HRX.out) Tryz.underlying47 rfl (by kernel_rfl)) rfl ?_
              rw [HR2.out]
              refine ⟨_, rfl, ?_, below_one_row _ _ _ _ _ HBX.out (Nat.le_refl _)⟩
              show SlAt _ 1 _ (intRows l)
              rw [HROWS.out]
              have ho := KF.out.own
              have h1 := HRL.out
              rw [← h1]
              rw [← h1] at ho
              exact own_slAt (own_kept ho fun g h1 _ => setRow_other _ _ _ _ (by have := KF.out.box.far; omega)) HONE.out (by omega)
            · have HR2 : Hid (res = none) := by show _ = _; rw [HRES.out]; exact if_neg (fun h => by rw [h0] at h; exact absurd h (by decide))
              rw [h0]
              clear h0
              go_wp2_with (refine wpList_store_row (by rfl) 47 _ _ (by rfl) w.heap.size _ (by rfl) (by rfl) 47 _ (by exact HRX.out) (by kernel_rfl) (by kernel_rfl) (by kernel_rfl) ?_)
              refine bodyPost_ret (results_cell_tmp rfl _ _ w.heap.size 47 _ _ rfl (setRow_heap _ _ _ _ _ _ HRX.out) Tryz.underlying47 rfl (by kernel_rfl)) rfl ?_
              rw [HR2.out]
              exact ⟨.slice none 0 0, rfl, slAt_nil _ _, below_one_row _ _ _ _ _ HBX.out (Nat.le_refl _)⟩
          | true =>
            simp only [Bool.true_and] at HRES
            by_cases z7 : 0 < n7
            · simp only [decide_eq_true z7, Bool.true_or] at HRES
              have q1 : wr.cell? ⟨b, 1, none⟩ = some (.bool false) := cell_of_heap K.out.rd.inf
              have q2 : wr.frozen? ⟨b, 1, none⟩ = false := free_of_heap K.out.rd.inf
              have q0 : wr.cell? ⟨gB, 2, none⟩ = some (.bool true) := cell_of_heap K.out.box.at_
              have c3 : wr.cell? ⟨gB, 3, none⟩ = some (.string ⟨t5.toArray⟩) := cell_of_heap K.out.box.at_
              have c4 : wr.cell? ⟨gB, 4, none⟩ = some (.string ⟨t6.toArray⟩) := cell_of_heap K.out.box.at_
              have c5 : wr.cell? ⟨gB, 5, none⟩ = some (.int .i64 n7) := cell_of_heap K.out.box.at_
              have c7 : wr.cell? ⟨gB, 7, none⟩ = some (.slice a i c) := cell_of_heap K.out.box.at_
              go_wp2_with fail
              clear q1 q2 q0 c3 c4 c5 c7
              have KF := Lib.hid (K.out.flag true)
              refine (done_any b ⟨rs, true⟩ _ (KF.out.rd).inf).mono ?_
              rintro e w' ⟨rfl, rfl⟩
              have HRX := Lib.hid (KF.out.rd).rb
              have HXX := Lib.hid (KF.out.box).at_
              have HBX := Lib.hid (KF.out.rd).below
              rcases doneF_cases ⟨rs, true⟩ with h0 | h0
              · have HR2 : Hid (res = some ⟨n2, q3, true, t5, t6, n7, n8, l⟩) := by show _ = _; rw [HRES.out]; exact if_pos h0
                rw [h0]
                clear h0
                go_wp2_with (first
                  | (refine wpList_load_row (by rfl) 47 _ (by rfl) gB (by rfl) 47 _ (0, 0) _ (by exact HXX.out) Tryz.underlying47 rfl (by kernel_rfl) ?_)
                  | (refine wpList_store_row (by rfl) 47 _ _ (by rfl) w.heap.size _ (by rfl) (by rfl) 47 _ (by exact HRX.out) (by kernel_rfl) (by kernel_rfl) (by kernel_rfl) ?_))
                refine bodyPost_ret (results_cell_tmp rfl _ _ w.heap.size 47 _ _ rfl (setRow_heap _ _ _ _ _ _ HRX.out) Tryz.underlying47 rfl (by kernel_rfl)) rfl ?_
                rw [HR2.out]
                refine ⟨_, rfl, ?_, below_one_row _ _ _ _ _ HBX.out (Nat.le_refl _)⟩
                show SlAt _ 1 _ (intRows l)
                rw [HROWS.out]
                have ho := KF.out.own
                have h1 := HRL.out
                rw [← h1]
                rw [← h1] at ho
                exact own_slAt (own_kept ho fun g h1 _ => setRow_other _ _ _ _ (by have := KF.out.box.far; omega)) HONE.out (by omega)
              · have HR2 : Hid (res = none) := by show _ = _; rw [HRES.out]; exact if_neg (fun h => by rw [h0] at h; exact absurd h (by decide))
                rw [h0]
                clear h0
                go_wp2_with (refine wpList_store_row (by rfl) 47 _ _ (by rfl) w.heap.size _ (by rfl) (by rfl) 47 _ (by exact HRX.out) (by kernel_rfl) (by kernel_rfl) (by kernel_rfl) ?_)
                refine bodyPost_ret (results_cell_tmp rfl _ _ w.heap.size 47 _ _ rfl (setRow_heap _ _ _ _ _ _ HRX.out) Tryz.underlying47 rfl (by kernel_rfl)) rfl ?_
                rw [HR2.out]
                exact ⟨.slice none 0 0, rfl, slAt_nil _ _, below_one_row _ _ _ _ _ HBX.out (Nat.le_refl _)⟩
            · simp only [decide_eq_false z7, Bool.false_or] at HRES
              by_cases zi : 0 < i
              · have ziz : (0 : Int) < (i : Int) := by omega
                simp only [decide_eq_true zi, Bool.true_or] at HRES
                have q1 : wr.cell? ⟨b, 1, none⟩ = some (.bool false) := cell_of_heap K.out.rd.inf
                have q2 : wr.frozen? ⟨b, 1, none⟩ = false := free_of_heap K.out.rd.inf
                have q0 : wr.cell? ⟨gB, 2, none⟩ = some (.bool true) := cell_of_heap K.out.box.at_
                have c3 : wr.cell? ⟨gB, 3, none⟩ = some (.string ⟨t5.toArray⟩) := cell_of_heap K.out.box.at_
                have c4 : wr.cell? ⟨gB, 4, none⟩ = some (.string ⟨t6.toArray⟩) := cell_of_heap K.out.box.at_
                have c5 : wr.cell? ⟨gB, 5, none⟩ = some (.int .i64 n7) := cell_of_heap K.out.box.at_
                have c7 : wr.cell? ⟨gB, 7, none⟩ = some (.slice a i c) := cell_of_heap K.out.box.at_
                go_wp2_with fail
                clear q1 q2 q0 c3 c4 c5 c7
                have KF := Lib.hid (K.out.flag true)
                refine (done_any b ⟨rs, true⟩ _ (KF.out.rd).inf).mono ?_
                rintro e w' ⟨rfl, rfl⟩
                have HRX := Lib.hid (KF.out.rd).rb
                have HXX := Lib.hid (KF.out.box).at_
                have HBX := Lib.hid (KF.out.rd).below
                rcases doneF_cases ⟨rs, true⟩ with h0 | h0
                · have HR2 : Hid (res = some ⟨n2, q3, true, t5, t6, n7, n8, l⟩) := by show _ = _; rw [HRES.out]; exact if_pos h0
                  rw [h0]
                  clear h0
                  go_wp2_with (first
                    | (refine wpList_load_row (by rfl) 47 _ (by rfl) gB (by rfl) 47 _ (0, 0) _ (by exact HXX.out) Tryz.underlying47 rfl (by kernel_rfl) ?_)
                    | (refine wpList_store_row (by rfl) 47 _ _ (by rfl) w.heap.size _ (by rfl) (by rfl) 47 _ (by exact HRX.out) (by kernel_rfl) (by kernel_rfl) (by kernel_rfl) ?_))
                  refine bodyPost_ret (results_cell_tmp rfl _ _ w.heap.size 47 _ _ rfl (setRow_heap _ _ _ _ _ _ HRX.out) Tryz.underlying47 rfl (by kernel_rfl)) rfl ?_
                  rw [HR2.out]
                  refine ⟨_, rfl, ?_, below_one_row _ _ _ _ _ HBX.out (Nat.le_refl _)⟩
                  show SlAt _ 1 _ (intRows l)
                  rw [HROWS.out]
                  have ho := KF.out.own
                  have h1 := HRL.out
                  rw [← h1]
                  rw [← h1] at ho
                  exact own_slAt (own_kept ho fun g h1 _ => setRow_other _ _ _ _ (by have := KF.out.box.far; omega)) HONE.out (by omega)
                · have HR2 : Hid (res = none) := by show _ = _; rw [HRES.out]; exact if_neg (fun h => by rw [h0] at h; exact absurd h (by decide))
                  rw [h0]
                  clear h0
                  go_wp2_with (refine wpList_store_row (by rfl) 47 _ _ (by rfl) w.heap.size _ (by rfl) (by rfl) 47 _ (by exact HRX.out) (by kernel_rfl) (by kernel_rfl) (by kernel_rfl) ?_)
                  refine bodyPost_ret (results_cell_tmp rfl _ _ w.heap.size 47 _ _ rfl (setRow_heap _ _ _ _ _ _ HRX.out) Tryz.underlying47 rfl (by kernel_rfl)) rfl ?_
                  rw [HR2.out]
                  exact ⟨.slice none 0 0, rfl, slAt_nil _ _, below_one_row _ _ _ _ _ HBX.out (Nat.le_refl _)⟩
              · have ziz : ¬ (0 : Int) < (i : Int) := by omega
                simp only [decide_eq_false zi, Bool.false_or] at HRES
                have hB : ((⟨t5.toArray⟩ : ByteArray) ++ ⟨t6.toArray⟩).toList.isEmpty = (t5 ++ t6).isEmpty := by
                  have e : ((⟨t5.toArray⟩ : ByteArray) ++ ⟨t6.toArray⟩) = ⟨(t5 ++ t6).toArray⟩ := by apply ByteArray.ext; simp
                  rw [e, ByteArray.toList_eq]
                obtain ⟨em, hem⟩ : ∃ x, (t5 ++ t6).isEmpty = x := ⟨_, rfl⟩
                rw [hem] at hB HRES
                have HEM := Lib.hid hB
                clear hB hem
                cases em with
                | true =>
                  simp only [Bool.not_true] at HRES
                  have q1 : wr.cell? ⟨b, 1, none⟩ = some (.bool false) := cell_of_heap K.out.rd.inf
                  have q2 : wr.frozen? ⟨b, 1, none⟩ = false := free_of_heap K.out.rd.inf
                  have q0 : wr.cell? ⟨gB, 2, none⟩ = some (.bool true) := cell_of_heap K.out.box.at_
                  have c3 : wr.cell? ⟨gB, 3, none⟩ = some (.string ⟨t5.toArray⟩) := cell_of_heap K.out.box.at_
                  have c4 : wr.cell? ⟨gB, 4, none⟩ = some (.string ⟨t6.toArray⟩) := cell_of_heap K.out.box.at_
                  have c5 : wr.cell? ⟨gB, 5, none⟩ = some (.int .i64 n7) := cell_of_heap K.out.box.at_
                  have c7 : wr.cell? ⟨gB, 7, none⟩ = some (.slice a i c) := cell_of_heap K.out.box.at_
                  go_wp2_with fail
                  rw [HEM.out]
                  simp only [Bool.not_true]
                  clear q1 q2 q0 c3 c4 c5 c7
                  have KF := Lib.hid (K.out.flag false)
                  refine (done_any b ⟨rs, false⟩ _ (KF.out.rd).inf).mono ?_
                  rintro e w' ⟨rfl, rfl⟩
                  have HRX := Lib.hid (KF.out.rd).rb
                  have HXX := Lib.hid (KF.out.box).at_
                  have HBX := Lib.hid (KF.out.rd).below
                  rcases doneF_cases ⟨rs, false⟩ with h0 | h0
                  · have HR2 : Hid (res = some ⟨n2, q3, true, t5, t6, n7, n8, l⟩) := by show _ = _; rw [HRES.out]; exact if_pos h0
                    rw [h0]
                    clear h0
                    go_wp2_with (first
                      | (refine wpList_load_row (by rfl) 47 _ (by rfl) gB (by rfl) 47 _ (0, 0) _ (by exact HXX.out) Tryz.underlying47 rfl (by kernel_rfl) ?_)
                      | (refine wpList_store_row (by rfl) 47 _ _ (by rfl) w.heap.size _ (by rfl) (by rfl) 47 _ (by exact HRX.out) (by kernel_rfl) (by kernel_rfl) (by kernel_rfl) ?_))
                    refine bodyPost_ret (results_cell_tmp rfl _ _ w.heap.size 47 _ _ rfl (setRow_heap _ _ _ _ _ _ HRX.out) Tryz.underlying47 rfl (by kernel_rfl)) rfl ?_
                    rw [HR2.out]
                    refine ⟨_, rfl, ?_, below_one_row _ _ _ _ _ HBX.out (Nat.le_refl _)⟩
                    show SlAt _ 1 _ (intRows l)
                    rw [HROWS.out]
                    have ho := KF.out.own
                    have h1 := HRL.out
                    rw [← h1]
                    rw [← h1] at ho
                    exact own_slAt (own_kept ho fun g h1 _ => setRow_other _ _ _ _ (by have := KF.out.box.far; omega)) HONE.out (by omega)
                  · have HR2 : Hid (res = none) := by show _ = _; rw [HRES.out]; exact if_neg (fun h => by rw [h0] at h; exact absurd h (by decide))
                    rw [h0]
                    clear h0
                    go_wp2_with (refine wpList_store_row (by rfl) 47 _ _ (by rfl) w.heap.size _ (by rfl) (by rfl) 47 _ (by exact HRX.out) (by kernel_rfl) (by kernel_rfl) (by kernel_rfl) ?_)
                    refine bodyPost_ret (results_cell_tmp rfl _ _ w.heap.size 47 _ _ rfl (setRow_heap _ _ _ _ _ _ HRX.out) Tryz.underlying47 rfl (by kernel_rfl)) rfl ?_
                    rw [HR2.out]
                    exact ⟨.slice none 0 0, rfl, slAt_nil _ _, below_one_row _ _ _ _ _ HBX.out (Nat.le_refl _)⟩
                | false =>
                  simp only [Bool.not_false] at HRES
                  have q1 : wr.cell? ⟨b, 1, none⟩ = some (.bool false) := cell_of_heap K.out.rd.inf
                  have q2 : wr.frozen? ⟨b, 1, none⟩ = false := free_of_heap K.out.rd.inf
                  have q0 : wr.cell? ⟨gB, 2, none⟩ = some (.bool true) := cell_of_heap K.out.box.at_
                  have c3 : wr.cell? ⟨gB, 3, none⟩ = some (.string ⟨t5.toArray⟩) := cell_of_heap K.out.box.at_
                  have c4 : wr.cell? ⟨gB, 4, none⟩ = some (.string ⟨t6.toArray⟩) := cell_of_heap K.out.box.at_
                  have c5 : wr.cell? ⟨gB, 5, none⟩ = some (.int .i64 n7) := cell_of_heap K.out.box.at_
                  have c7 : wr.cell? ⟨gB, 7, none⟩ = some (.slice a i c) := cell_of_heap K.out.box.at_
                  go_wp2_with fail
                  rw [HEM.out]
                  simp only [Bool.not_false]
                  clear q1 q2 q0 c3 c4 c5 c7
                  have KF := Lib.hid (K.out.flag true)
                  refine (done_any b ⟨rs, true⟩ _ (KF.out.rd).inf).mono ?_
                  rintro e w' ⟨rfl, rfl⟩
                  have HRX := Lib.hid (KF.out.rd).rb
                  have HXX := Lib.hid (KF.out.box).at_
                  have HBX := Lib.hid (KF.out.rd).below
                  rcases doneF_cases ⟨rs, true⟩ with h0 | h0
                  · have HR2 : Hid (res = some ⟨n2, q3, true, t5, t6, n7, n8, l⟩) := by show _ = _; rw [HRES.out]; exact if_pos h0
                    rw [h0]
                    clear h0
                    go_wp2_with (first
                      | (refine wpList_load_row (by rfl) 47 _ (by rfl) gB (by rfl) 47 _ (0, 0) _ (by exact HXX.out) Tryz.underlying47 rfl (by kernel_rfl) ?_)
                      | (refine wpList_store_row (by rfl) 47 _ _ (by rfl) w.heap.size _ (by rfl) (by rfl) 47 _ (by exact HRX.out) (by kernel_rfl) (by kernel_rfl) (by kernel_rfl) ?_))
                    refine bodyPost_ret (results_cell_tmp rfl _ _ w.heap.size 47 _ _ rfl (setRow_heap _ _ _ _ _ _ HRX.out) Tryz.underlying47 rfl (by kernel_rfl)) rfl ?_
                    rw [HR2.out]
                    refine ⟨_, rfl, ?_, below_one_row _ _ _ _ _ HBX.out (Nat.le_refl _)⟩
                    show SlAt _ 1 _ (intRows l)
                    rw [HROWS.out]
                    have ho := KF.out.own
                    have h1 := HRL.out
                    rw [← h1]
                    rw [← h1] at ho
                    exact own_slAt (own_kept ho fun g h1 _ => setRow_other _ _ _ _ (by have := KF.out.box.far; omega)) HONE.out (by omega)
                  · have HR2 : Hid (res = none) := by show _ = _; rw [HRES.out]; exact if_neg (fun h => by rw [h0] at h; exact absurd h (by decide))
                    rw [h0]
                    clear h0
                    go_wp2_with (refine wpList_store_row (by rfl) 47 _ _ (by rfl) w.heap.size _ (by rfl) (by rfl) 47 _ (by exact HRX.out) (by kernel_rfl) (by kernel_rfl) (by kernel_rfl) ?_)
                    refine bodyPost_ret (results_cell_tmp rfl _ _ w.heap.size 47 _ _ rfl (setRow_heap _ _ _ _ _ _ HRX.out) Tryz.underlying47 rfl (by kernel_rfl)) rfl ?_
                    rw [HR2.out]
                    exact ⟨.slice none 0 0, rfl, slAt_nil _ _, below_one_row _ _ _ _ _ HBX.out (Nat.le_refl _)⟩

end Go.Proofs.YtajmkkjlhmeolaaGreatDoor
