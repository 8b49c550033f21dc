/-
  meta.ReadPart: the walk. (Printed by wip/gen/mtpart.py.)
-/
import Derived.Test.YtajmkkjlhmeolaaGreatDoorSm11
namespace Go.Proofs.YtajmkkjlhmeolaaGreatDoor
open Go.RowKit

/-- what ReadPart leaves -/
def PartOut (o : Option PartV) (w : World) (e : Ending) (w' : World) : Prop :=
  e = .returned (.tuple #[.agg (match o with | some p => p.cells | none => partZero), .int .i64 (match o with | some _ => 0 | none => 59)]) ∧ Below w.heap.size w w'

set_option maxHeartbeats 4000000 in
set_option maxRecDepth 100000 in
theorem readPart_any (s : List UInt8) (w : World) (hG : Glob w) (hl : s.length ≤ 140737488351232) : Calls Tryz.prog 29 #[.string ⟨s.toArray⟩] w (PartOut (readPartL s) w) := by
  have HRES : Hid (readPartL s = if doneF (rp6 s).2 = 0 then some ⟨(rp2 s).1, (rp3 s).1, (rp4 s).1, (rp5 s).1, (rp6 s).1⟩ else none) := rfl
  obtain ⟨res, hres⟩ : ∃ r, Hid (readPartL s = r) := ⟨_, rfl⟩
  rw [hres.out] at HRES ⊢
  have R0 := Lib.hid (RdAt.start hG s partZero 56)
  obtain ⟨b, hb⟩ : ∃ b, b = w.heap.size + 1 := ⟨_, rfl⟩
  rw [← hb] at R0
  have l1 : (rp1 s).rest.length ≤ 140737488351232 := Nat.le_trans (ofF_len _ _) hl
  have l2 : (rp2 s).2.rest.length ≤ 140737488351232 := Nat.le_trans (numberF_len _ _ _) l1
  have l3 : (rp3 s).2.rest.length ≤ 140737488351232 := Nat.le_trans (numberF_len _ _ _) l2
  have l4 : (rp4 s).2.rest.length ≤ 140737488351232 := Nat.le_trans (numberF_len _ _ _) l3
  have l5 : (rp5 s).2.rest.length ≤ 140737488351232 := Nat.le_trans (shortF_len _ _).2 l4
  have C1 : Hid (∀ W, RdAt w W b ⟨s, false⟩ partZero 56 → Calls Tryz.prog 59 #[.pointer (some ⟨b, 0, none⟩), .string ⟨#[80]⟩] W (BoolOut b (!(rp1 s).bad) (rp1 s) W)) := fun W h => of_any b [80] ⟨s, false⟩ W rfl h.glob h.inf hl
  have C2 : Hid (∀ W, RdAt w W b (rp1 s) partZero 56 → Calls Tryz.prog 63 #[.pointer (some ⟨b, 0, none⟩), .int .i64 1, .int .i64 20] W (NumOut b (rp2 s).1 (rp2 s).2 W)) := fun W h => number_field_any b 1 20 (rp1 s) W (by unfold IntOK; omega) (by unfold IntOK; omega) h.glob h.big h.inf l1
  have C3 : Hid (∀ W, RdAt w W b (rp2 s).2 partZero 56 → Calls Tryz.prog 63 #[.pointer (some ⟨b, 0, none⟩), .int .i64 0, .int .i64 9007199254740991] W (NumOut b (rp3 s).1 (rp3 s).2 W)) := fun W h => number_field_any b 0 9007199254740991 (rp2 s).2 W (by unfold IntOK; omega) (by unfold IntOK; omega) h.glob h.big h.inf l2
  have C4 : Hid (∀ W, RdAt w W b (rp3 s).2 partZero 56 → Calls Tryz.prog 62 #[.pointer (some ⟨b, 0, none⟩)] W (NumOut b (rp4 s).1 (rp4 s).2 W)) := fun W h => when_any b (rp3 s).2 W h.glob h.big h.inf l3
  have C5 : Hid (∀ W, RdAt w W b (rp4 s).2 partZero 56 → Calls Tryz.prog 61 #[.pointer (some ⟨b, 0, none⟩), .int .i64 100] W (TextOut b (rp5 s).1 (rp5 s).2 W)) := fun W h => short_any b 100 (rp4 s).2 W (by unfold IntOK; omega) h.glob h.inf l4
  have C6 : Hid (∀ W, RdAt w W b (rp5 s).2 partZero 56 → Calls Tryz.prog 66 #[.pointer (some ⟨b, 0, none⟩)] W (NumOut b (rp6 s).1 (rp6 s).2 W)) := fun W h => seq_any b (rp5 s).2 W h.glob h.big h.inf l5
  have HD := doneF_cases (rp6 s).2
  clear l1 l2 l3 l4 l5
  generalize rp1 s = f1 at *
  generalize rp2 s = p2 at *
  generalize rp3 s = p3 at *
  generalize rp4 s = p4 at *
  generalize rp5 s = p5 at *
  generalize rp6 s = p6 at *
  obtain ⟨n2, f2⟩ := p2
  obtain ⟨n3, f3⟩ := p3
  obtain ⟨n4, f4⟩ := p4
  obtain ⟨t5, f5⟩ := p5
  obtain ⟨n6, f6⟩ := p6
  simp only at *
  have HB := Lib.hid hb
  have HDD := Lib.hid HD
  clear HD hG
  go_enter Tryz.func29, Tryz.ntmps29
  go_wp2_with fail
  rw [← hb]
  clear hb
  refine (C1.out _ R0.out).mono ?_
  rintro e w1 ⟨rfl, hf1, hg1⟩
  have R1 := Lib.hid (R0.out.next hf1 hg1)
  clear hf1 hg1 R0
  go_wp2_with fail
  go_cut [5] (fun s5 wx => ∃ gB : Nat, s5 = .pointer (some ⟨gB, 0, none⟩) ∧ RdAt w wx b f6 partZero 56 ∧ BoxAt w wx gB #[.int .i64 n2, .int .i64 n3, .int .i64 n4, .string ⟨t5.toArray⟩, .int .i64 n6] 56)
  case first =>
    refine wp_region_held_drew (S := (fun _ => True)) (by kernel_rfl) trivial (fun hS0 => ?_)
    have Rw2 : Hid (RdAt w w1.drew b f1 partZero 56) := R1.out.later (Below.refl _ _).drew
    generalize w1.drew = w2 at Rw2 ⊢
    refine wpAnyH_take (i := 0) (oi := { dst := some 13, op := _, type := _, pos := _, after := _, guard := _ }) (v := ?_) rfl (by kernel_rfl) (by kernel_rfl) (by kernel_rfl) (fun _ _ _ h => h) (Or.inl ⟨by kernel_rfl, ?_⟩) (by assumption) ?_
    rotate_left
    · (intro w hSw; (try dsimp only at hSw); go_simp); all_goals (with_reducible rfl)
    try simp only [Act.put, List.setIfInBounds_toArray, List.set_cons_zero, List.set_cons_succ]
    refine wpAnyH_take (i := 1) (oi := { dst := some 14, op := _, type := _, pos := _, after := _, guard := _ }) (v := ?_) rfl (by kernel_rfl) (by kernel_rfl) (by kernel_rfl) (fun _ _ _ h => h) (Or.inl ⟨by kernel_rfl, ?_⟩) (by assumption) ?_
    rotate_left
    · (intro w hSw; (try dsimp only at hSw); go_simp); all_goals (with_reducible rfl)
    try simp only [Act.put, List.setIfInBounds_toArray, List.set_cons_zero, List.set_cons_succ]
    refine wpAnyH_take (i := 2) (oi := { dst := some 15, op := _, type := _, pos := _, after := _, guard := _ }) (v := ?_) rfl (by kernel_rfl) (by kernel_rfl) (by kernel_rfl) (fun _ _ _ h => h) (Or.inl ⟨by kernel_rfl, ?_⟩) (by assumption) ?_
    rotate_left
    · (intro w hSw; (try dsimp only at hSw); go_simp); all_goals (with_reducible rfl)
    try simp only [Act.put, List.setIfInBounds_toArray, List.set_cons_zero, List.set_cons_succ]
    refine wpAnyH_take (i := 4) (oi := { dst := some 17, op := _, type := _, pos := _, after := _, guard := _ }) (v := ?_) rfl (by kernel_rfl) (by kernel_rfl) (by kernel_rfl) (fun _ _ _ h => h) (Or.inl ⟨by kernel_rfl, ?_⟩) (by assumption) ?_
    rotate_left
    · (intro w hSw; (try dsimp only at hSw); go_simp); all_goals (with_reducible rfl)
    try simp only [Act.put, List.setIfInBounds_toArray, List.set_cons_zero, List.set_cons_succ]
    refine wpAnyH_take (i := 5) (oi := { dst := some 18, op := _, type := _, pos := _, after := _, guard := _ }) (v := ?_) rfl (by kernel_rfl) (by kernel_rfl) (by kernel_rfl) (fun _ _ _ h => h) (Or.inl ⟨by kernel_rfl, ?_⟩) (by assumption) ?_
    rotate_left
    · (intro w hSw; (try dsimp only at hSw); go_simp); all_goals (with_reducible rfl)
    try simp only [Act.put, List.setIfInBounds_toArray, List.set_cons_zero, List.set_cons_succ]
    refine wpAnyH_take (i := 6) (oi := { dst := some 19, op := _, type := _, pos := _, after := _, guard := _ }) (v := ?_) rfl (by kernel_rfl) (by kernel_rfl) (by kernel_rfl) (fun _ _ _ h => h) (Or.inl ⟨by kernel_rfl, ?_⟩) (by assumption) ?_
    rotate_left
    · (intro w hSw; (try dsimp only at hSw); go_simp); all_goals (with_reducible rfl)
    try simp only [Act.put, List.setIfInBounds_toArray, List.set_cons_zero, List.set_cons_succ]
    refine wpAnyH_take (i := 8) (oi := { dst := some 21, op := _, type := _, pos := _, after := _, guard := _ }) (v := ?_) rfl (by kernel_rfl) (by kernel_rfl) (by kernel_rfl) (fun _ _ _ h => h) (Or.inl ⟨by kernel_rfl, ?_⟩) (by assumption) ?_
    rotate_left
    · (intro w hSw; (try dsimp only at hSw); go_simp); all_goals (with_reducible rfl)
    try simp only [Act.put, List.setIfInBounds_toArray, List.set_cons_zero, List.set_cons_succ]
    refine wpAnyH_take (i := 10) (oi := { dst := some 23, op := _, type := _, pos := _, after := _, guard := _ }) (v := ?_) rfl (by kernel_rfl) (by kernel_rfl) (by kernel_rfl) (fun _ _ _ h => h) (Or.inl ⟨by kernel_rfl, ?_⟩) (by assumption) ?_
    rotate_left
    · (intro w hSw; (try dsimp only at hSw); go_simp); all_goals (with_reducible rfl)
    try simp only [Act.put, List.setIfInBounds_toArray, List.set_cons_zero, List.set_cons_succ]
    refine wpAnyH_take (i := 11) (oi := { dst := some 24, op := _, type := _, pos := _, after := _, guard := _ }) (v := ?_) rfl (by kernel_rfl) (by kernel_rfl) (by kernel_rfl) (fun _ _ _ h => h) (Or.inl ⟨by kernel_rfl, ?_⟩) (by assumption) ?_
    rotate_left
    · (intro w hSw; (try dsimp only at hSw); go_simp); all_goals (with_reducible rfl)
    try simp only [Act.put, List.setIfInBounds_toArray, List.set_cons_zero, List.set_cons_succ]
    refine wpAnyH_take (i := 12) (oi := { dst := some 25, op := _, type := _, pos := _, after := _, guard := _ }) (v := ?_) rfl (by kernel_rfl) (by kernel_rfl) (by kernel_rfl) (fun _ _ _ h => h) (Or.inl ⟨by kernel_rfl, ?_⟩) (by assumption) ?_
    rotate_left
    · (intro w hSw; (try dsimp only at hSw); go_simp); all_goals (with_reducible rfl)
    try simp only [Act.put, List.setIfInBounds_toArray, List.set_cons_zero, List.set_cons_succ]
    refine wpAnyH_take (i := 14) (oi := { dst := some 27, op := _, type := _, pos := _, after := _, guard := _ }) (v := ?_) rfl (by kernel_rfl) (by kernel_rfl) (by kernel_rfl) (fun _ _ _ h => h) (Or.inl ⟨by kernel_rfl, ?_⟩) (by assumption) ?_
    rotate_left
    · (intro w hSw; (try dsimp only at hSw); go_simp); all_goals (with_reducible rfl)
    try simp only [Act.put, List.setIfInBounds_toArray, List.set_cons_zero, List.set_cons_succ]
    refine wpAnyH_ready (rs := [3, 17]) (by kernel_rfl) (by simp) ?_
    refine (AllReadyH.cons rfl (fun K hK => ?_) (AllReadyH.cons rfl (fun K hK => ?_) AllReadyH.nil))
    · rw [if_pos (by kernel_rfl)]
      go_wp2_with fail
      refine (C2.out _ Rw2.out).mono ?_
      rintro e v1 ⟨rfl, hfv1, hgv1⟩
      have Rv1 := Lib.hid (Rw2.out.next hfv1 hgv1)
      clear hfv1 hgv1
      go_wp2_with fail
      refine hK.out _ _ trivial (fun _ => ?_)
      clear hK K
      try simp only [Act.put, List.setIfInBounds_toArray, List.set_cons_zero, List.set_cons_succ]
      refine wpAnyH_ready (rs := [7, 17]) (by kernel_rfl) (by simp) ?_
      refine (AllReadyH.cons rfl (fun K hK => ?_) (AllReadyH.cons rfl (fun K hK => ?_) AllReadyH.nil))
      · rw [if_pos (by kernel_rfl)]
        go_wp2_with fail
        refine (C3.out _ Rv1.out).mono ?_
        rintro e v2 ⟨rfl, hfv2, hgv2⟩
        have Rv2 := Lib.hid (Rv1.out.next hfv2 hgv2)
        clear hfv2 hgv2
        go_wp2_with fail
        refine hK.out _ _ trivial (fun _ => ?_)
        clear hK K
        try simp only [Act.put, List.setIfInBounds_toArray, List.set_cons_zero, List.set_cons_succ]
        refine wpAnyH_ready (rs := [9, 17]) (by kernel_rfl) (by simp) ?_
        refine (AllReadyH.cons rfl (fun K hK => ?_) (AllReadyH.cons rfl (fun K hK => ?_) AllReadyH.nil))
        · rw [if_pos (by kernel_rfl)]
          go_wp2_with fail
          refine (C4.out _ Rv2.out).mono ?_
          rintro e v3 ⟨rfl, hfv3, hgv3⟩
          have Rv3 := Lib.hid (Rv2.out.next hfv3 hgv3)
          clear hfv3 hgv3
          go_wp2_with fail
          refine hK.out _ _ trivial (fun _ => ?_)
          clear hK K
          try simp only [Act.put, List.setIfInBounds_toArray, List.set_cons_zero, List.set_cons_succ]
          refine wpAnyH_ready (rs := [13, 17]) (by kernel_rfl) (by simp) ?_
          refine (AllReadyH.cons rfl (fun K hK => ?_) (AllReadyH.cons rfl (fun K hK => ?_) AllReadyH.nil))
          · rw [if_pos (by kernel_rfl)]
            go_wp2_with fail
            refine (C5.out _ Rv3.out).mono ?_
            rintro e v4 ⟨rfl, hfv4, hgv4⟩
            have Rv4 := Lib.hid (Rv3.out.next hfv4 hgv4)
            clear hfv4 hgv4
            go_wp2_with fail
            refine hK.out _ _ trivial (fun _ => ?_)
            clear hK K
            try simp only [Act.put, List.setIfInBounds_toArray, List.set_cons_zero, List.set_cons_succ]
            refine wpAnyH_ready (rs := [15, 17]) (by kernel_rfl) (by simp) ?_
            refine (AllReadyH.cons rfl (fun K hK => ?_) (AllReadyH.cons rfl (fun K hK => ?_) AllReadyH.nil))
            · rw [if_pos (by kernel_rfl)]
              go_wp2_with fail
              refine (C6.out _ Rv4.out).mono ?_
              rintro e v5 ⟨rfl, hfv5, hgv5⟩
              have Rv5 := Lib.hid (Rv4.out.next hfv5 hgv5)
              clear hfv5 hgv5
              go_wp2_with fail
              refine hK.out _ _ trivial (fun _ => ?_)
              clear hK K
              try simp only [Act.put, List.setIfInBounds_toArray, List.set_cons_zero, List.set_cons_succ]
              refine wpAnyH_take (i := 16) (oi := { dst := some 29, op := _, type := _, pos := _, after := _, guard := _ }) (v := ?_) rfl (by kernel_rfl) (by kernel_rfl) (by kernel_rfl) (fun _ _ _ h => h) (Or.inl ⟨by kernel_rfl, ?_⟩) (by assumption) ?_
              rotate_left
              · (intro w hSw; (try dsimp only at hSw); go_simp); all_goals (with_reducible rfl)
              try simp only [Act.put, List.setIfInBounds_toArray, List.set_cons_zero, List.set_cons_succ]
              refine wpAnyH_ready (rs := [17]) (by kernel_rfl) (by simp) ?_
              refine (AllReadyH.cons rfl (fun K hK => ?_) AllReadyH.nil)
              rw [if_pos (by kernel_rfl)]
              go_wp2_with fail
              have Rv6 := Lib.hid (Rv5.out.later (below_alloc (Below.refl _ _) (Nat.le_refl _) (.cells partZero 56)))
              have Xv6 := Lib.hid (BoxAt.new Rv5.out partZero 56)
              refine hK.out _ (v5.alloc (.cells partZero 56)) trivial (fun _ => ?_)
              generalize v5.alloc (.cells partZero 56) = v6 at Rv6 Xv6 ⊢
              generalize v5.heap.size = gB at Xv6 ⊢
              clear hK K
              try simp only [Act.put, List.setIfInBounds_toArray, List.set_cons_zero, List.set_cons_succ]
              refine wpAnyH_ready (rs := [18]) (by kernel_rfl) (by simp) ?_
              refine (AllReadyH.cons rfl (fun K hK => ?_) AllReadyH.nil)
              rw [if_pos (by kernel_rfl)]
              refine wp_store_row 56 _ _ (by rfl) _ #[.int .i64 n2, .int .i64 n3, .int .i64 n4, .string ⟨t5.toArray⟩, .int .i64 n6] (by rfl) (by rfl) 56 partZero (Xv6.out).at_ (by kernel_rfl) (by kernel_rfl) (by kernel_rfl) ?_
              refine hK.out _ _ trivial (fun _ => ?_)
              clear hK K
              try simp only [Act.put]
              refine wpAnyH_done (by kernel_rfl) ?_ _
              go_wp2_with fail
              go_meet
              case rel => exact ⟨_, rfl, Rv6.out.setRow _ Xv6.out.far, Xv6.out.set _⟩
            · rw [if_pos (by kernel_rfl)]
              go_wp2_with fail
              have Rv8 := Lib.hid (Rv4.out.later (below_alloc (Below.refl _ _) (Nat.le_refl _) (.cells partZero 56)))
              have Xv8 := Lib.hid (BoxAt.new Rv4.out partZero 56)
              refine hK.out _ (v4.alloc (.cells partZero 56)) trivial (fun _ => ?_)
              generalize v4.alloc (.cells partZero 56) = v8 at Rv8 Xv8 ⊢
              generalize v4.heap.size = gB at Xv8 ⊢
              clear hK K
              try simp only [Act.put, List.setIfInBounds_toArray, List.set_cons_zero, List.set_cons_succ]
              refine wpAnyH_ready (rs := [15]) (by kernel_rfl) (by simp) ?_
              refine (AllReadyH.cons rfl (fun K hK => ?_) AllReadyH.nil)
              rw [if_pos (by kernel_rfl)]
              go_wp2_with fail
              refine (C6.out _ Rv8.out).mono ?_
              rintro e v9 ⟨rfl, hfv9, hgv9⟩
              have Rv9 := Lib.hid (Rv8.out.next hfv9 hgv9)
              have Xv9 := Lib.hid (Xv8.out.next Rv8.out.hb hgv9)
              clear hfv9 hgv9
              go_wp2_with fail
              refine hK.out _ _ trivial (fun _ => ?_)
              clear hK K
              try simp only [Act.put, List.setIfInBounds_toArray, List.set_cons_zero, List.set_cons_succ]
              refine wpAnyH_take (i := 16) (oi := { dst := some 29, op := _, type := _, pos := _, after := _, guard := _ }) (v := ?_) rfl (by kernel_rfl) (by kernel_rfl) (by kernel_rfl) (fun _ _ _ h => h) (Or.inl ⟨by kernel_rfl, ?_⟩) (by assumption) ?_
              rotate_left
              · (intro w hSw; (try dsimp only at hSw); go_simp); all_goals (with_reducible rfl)
              try simp only [Act.put, List.setIfInBounds_toArray, List.set_cons_zero, List.set_cons_succ]
              refine wpAnyH_ready (rs := [18]) (by kernel_rfl) (by simp) ?_
              refine (AllReadyH.cons rfl (fun K hK => ?_) AllReadyH.nil)
              rw [if_pos (by kernel_rfl)]
              refine wp_store_row 56 _ _ (by rfl) _ #[.int .i64 n2, .int .i64 n3, .int .i64 n4, .string ⟨t5.toArray⟩, .int .i64 n6] (by rfl) (by rfl) 56 partZero (Xv9.out).at_ (by kernel_rfl) (by kernel_rfl) (by kernel_rfl) ?_
              refine hK.out _ _ trivial (fun _ => ?_)
              clear hK K
              try simp only [Act.put]
              refine wpAnyH_done (by kernel_rfl) ?_ _
              go_wp2_with fail
              go_meet
              case rel => exact ⟨_, rfl, Rv9.out.setRow _ Xv9.out.far, Xv9.out.set _⟩
          · rw [if_pos (by kernel_rfl)]
            go_wp2_with fail
            have Rv11 := Lib.hid (Rv3.out.later (below_alloc (Below.refl _ _) (Nat.le_refl _) (.cells partZero 56)))
            have Xv11 := Lib.hid (BoxAt.new Rv3.out partZero 56)
            refine hK.out _ (v3.alloc (.cells partZero 56)) trivial (fun _ => ?_)
            generalize v3.alloc (.cells partZero 56) = v11 at Rv11 Xv11 ⊢
            generalize v3.heap.size = gB at Xv11 ⊢
            clear hK K
            try simp only [Act.put, List.setIfInBounds_toArray, List.set_cons_zero, List.set_cons_succ]
            refine wpAnyH_ready (rs := [13]) (by kernel_rfl) (by simp) ?_
            refine (AllReadyH.cons rfl (fun K hK => ?_) AllReadyH.nil)
            rw [if_pos (by kernel_rfl)]
            go_wp2_with fail
            refine (C5.out _ Rv11.out).mono ?_
            rintro e v12 ⟨rfl, hfv12, hgv12⟩
            have Rv12 := Lib.hid (Rv11.out.next hfv12 hgv12)
            have Xv12 := Lib.hid (Xv11.out.next Rv11.out.hb hgv12)
            clear hfv12 hgv12
            go_wp2_with fail
            refine hK.out _ _ trivial (fun _ => ?_)
            clear hK K
            try simp only [Act.put, List.setIfInBounds_toArray, List.set_cons_zero, List.set_cons_succ]
            refine wpAnyH_ready (rs := [15]) (by kernel_rfl) (by simp) ?_
            refine (AllReadyH.cons rfl (fun K hK => ?_) AllReadyH.nil)
            rw [if_pos (by kernel_rfl)]
            go_wp2_with fail
            refine (C6.out _ Rv12.out).mono ?_
            rintro e v13 ⟨rfl, hfv13, hgv13⟩
            have Rv13 := Lib.hid (Rv12.out.next hfv13 hgv13)
            have Xv13 := Lib.hid (Xv12.out.next Rv12.out.hb hgv13)
            clear hfv13 hgv13
            go_wp2_with fail
            refine hK.out _ _ trivial (fun _ => ?_)
            clear hK K
            try simp only [Act.put, List.setIfInBounds_toArray, List.set_cons_zero, List.set_cons_succ]
            refine wpAnyH_take (i := 16) (oi := { dst := some 29, op := _, type := _, pos := _, after := _, guard := _ }) (v := ?_) rfl (by kernel_rfl) (by kernel_rfl) (by kernel_rfl) (fun _ _ _ h => h) (Or.inl ⟨by kernel_rfl, ?_⟩) (by assumption) ?_
            rotate_left
            · (intro w hSw; (try dsimp only at hSw); go_simp); all_goals (with_reducible rfl)
            try simp only [Act.put, List.setIfInBounds_toArray, List.set_cons_zero, List.set_cons_succ]
            refine wpAnyH_ready (rs := [18]) (by kernel_rfl) (by simp) ?_
            refine (AllReadyH.cons rfl (fun K hK => ?_) AllReadyH.nil)
            rw [if_pos (by kernel_rfl)]
            refine wp_store_row 56 _ _ (by rfl) _ #[.int .i64 n2, .int .i64 n3, .int .i64 n4, .string ⟨t5.toArray⟩, .int .i64 n6] (by rfl) (by rfl) 56 partZero (Xv13.out).at_ (by kernel_rfl) (by kernel_rfl) (by kernel_rfl) ?_
            refine hK.out _ _ trivial (fun _ => ?_)
            clear hK K
            try simp only [Act.put]
            refine wpAnyH_done (by kernel_rfl) ?_ _
            go_wp2_with fail
            go_meet
            case rel => exact ⟨_, rfl, Rv13.out.setRow _ Xv13.out.far, Xv13.out.set _⟩
        · rw [if_pos (by kernel_rfl)]
          go_wp2_with fail
          have Rv15 := Lib.hid (Rv2.out.later (below_alloc (Below.refl _ _) (Nat.le_refl _) (.cells partZero 56)))
          have Xv15 := Lib.hid (BoxAt.new Rv2.out partZero 56)
          refine hK.out _ (v2.alloc (.cells partZero 56)) trivial (fun _ => ?_)
          generalize v2.alloc (.cells partZero 56) = v15 at Rv15 Xv15 ⊢
          generalize v2.heap.size = gB at Xv15 ⊢
          clear hK K
          try simp only [Act.put, List.setIfInBounds_toArray, List.set_cons_zero, List.set_cons_succ]
          refine wpAnyH_ready (rs := [9]) (by kernel_rfl) (by simp) ?_
          refine (AllReadyH.cons rfl (fun K hK => ?_) AllReadyH.nil)
          rw [if_pos (by kernel_rfl)]
          go_wp2_with fail
          refine (C4.out _ Rv15.out).mono ?_
          rintro e v16 ⟨rfl, hfv16, hgv16⟩
          have Rv16 := Lib.hid (Rv15.out.next hfv16 hgv16)
          have Xv16 := Lib.hid (Xv15.out.next Rv15.out.hb hgv16)
          clear hfv16 hgv16
          go_wp2_with fail
          refine hK.out _ _ trivial (fun _ => ?_)
          clear hK K
          try simp only [Act.put, List.setIfInBounds_toArray, List.set_cons_zero, List.set_cons_succ]
          refine wpAnyH_ready (rs := [13]) (by kernel_rfl) (by simp) ?_
          refine (AllReadyH.cons rfl (fun K hK => ?_) AllReadyH.nil)
          rw [if_pos (by kernel_rfl)]
          go_wp2_with fail
          refine (C5.out _ Rv16.out).mono ?_
          rintro e v17 ⟨rfl, hfv17, hgv17⟩
          have Rv17 := Lib.hid (Rv16.out.next hfv17 hgv17)
          have Xv17 := Lib.hid (Xv16.out.next Rv16.out.hb hgv17)
          clear hfv17 hgv17
          go_wp2_with fail
          refine hK.out _ _ trivial (fun _ => ?_)
          clear hK K
          try simp only [Act.put, List.setIfInBounds_toArray, List.set_cons_zero, List.set_cons_succ]
          refine wpAnyH_ready (rs := [15]) (by kernel_rfl) (by simp) ?_
          refine (AllReadyH.cons rfl (fun K hK => ?_) AllReadyH.nil)
          rw [if_pos (by kernel_rfl)]
          go_wp2_with fail
          refine (C6.out _ Rv17.out).mono ?_
          rintro e v18 ⟨rfl, hfv18, hgv18⟩
          have Rv18 := Lib.hid (Rv17.out.next hfv18 hgv18)
          have Xv18 := Lib.hid (Xv17.out.next Rv17.out.hb hgv18)
          clear hfv18 hgv18
          go_wp2_with fail
          refine hK.out _ _ trivial (fun _ => ?_)
          clear hK K
          try simp only [Act.put, List.setIfInBounds_toArray, List.set_cons_zero, List.set_cons_succ]
          refine wpAnyH_take (i := 16) (oi := { dst := some 29, op := _, type := _, pos := _, after := _, guard := _ }) (v := ?_) rfl (by kernel_rfl) (by kernel_rfl) (by kernel_rfl) (fun _ _ _ h => h) (Or.inl ⟨by kernel_rfl, ?_⟩) (by assumption) ?_
          rotate_left
          · (intro w hSw; (try dsimp only at hSw); go_simp); all_goals (with_reducible rfl)
          try simp only [Act.put, List.setIfInBounds_toArray, List.set_cons_zero, List.set_cons_succ]
          refine wpAnyH_ready (rs := [18]) (by kernel_rfl) (by simp) ?_
          refine (AllReadyH.cons rfl (fun K hK => ?_) AllReadyH.nil)
          rw [if_pos (by kernel_rfl)]
          refine wp_store_row 56 _ _ (by rfl) _ #[.int .i64 n2, .int .i64 n3, .int .i64 n4, .string ⟨t5.toArray⟩, .int .i64 n6] (by rfl) (by rfl) 56 partZero (Xv18.out).at_ (by kernel_rfl) (by kernel_rfl) (by kernel_rfl) ?_
          refine hK.out _ _ trivial (fun _ => ?_)
          clear hK K
          try simp only [Act.put]
          refine wpAnyH_done (by kernel_rfl) ?_ _
          go_wp2_with fail
          go_meet
          case rel => exact ⟨_, rfl, Rv18.out.setRow _ Xv18.out.far, Xv18.out.set _⟩
      · rw [if_pos (by kernel_rfl)]
        go_wp2_with fail
        have Rv20 := Lib.hid (Rv1.out.later (below_alloc (Below.refl _ _) (Nat.le_refl _) (.cells partZero 56)))
        have Xv20 := Lib.hid (BoxAt.new Rv1.out partZero 56)
        refine hK.out _ (v1.alloc (.cells partZero 56)) trivial (fun _ => ?_)
        generalize v1.alloc (.cells partZero 56) = v20 at Rv20 Xv20 ⊢
        generalize v1.heap.size = gB at Xv20 ⊢
        clear hK K
        try simp only [Act.put, List.setIfInBounds_toArray, List.set_cons_zero, List.set_cons_succ]
        refine wpAnyH_ready (rs := [7]) (by kernel_rfl) (by simp) ?_
        refine (AllReadyH.cons rfl (fun K hK => ?_) AllReadyH.nil)
        rw [if_pos (by kernel_rfl)]
        go_wp2_with fail
        refine (C3.out _ Rv20.out).mono ?_
        rintro e v21 ⟨rfl, hfv21, hgv21⟩
        have Rv21 := Lib.hid (Rv20.out.next hfv21 hgv21)
        have Xv21 := Lib.hid (Xv20.out.next Rv20.out.hb hgv21)
        clear hfv21 hgv21
        go_wp2_with fail
        refine hK.out _ _ trivial (fun _ => ?_)
        clear hK K
        try simp only [Act.put, List.setIfInBounds_toArray, List.set_cons_zero, List.set_cons_succ]
        refine wpAnyH_ready (rs := [9]) (by kernel_rfl) (by simp) ?_
        refine (AllReadyH.cons rfl (fun K hK => ?_) AllReadyH.nil)
        rw [if_pos (by kernel_rfl)]
        go_wp2_with fail
        refine (C4.out _ Rv21.out).mono ?_
        rintro e v22 ⟨rfl, hfv22, hgv22⟩
        have Rv22 := Lib.hid (Rv21.out.next hfv22 hgv22)
        have Xv22 := Lib.hid (Xv21.out.next Rv21.out.hb hgv22)
        clear hfv22 hgv22
        go_wp2_with fail
        refine hK.out _ _ trivial (fun _ => ?_)
        clear hK K
        try simp only [Act.put, List.setIfInBounds_toArray, List.set_cons_zero, List.set_cons_succ]
        refine wpAnyH_ready (rs := [13]) (by kernel_rfl) (by simp) ?_
        refine (AllReadyH.cons rfl (fun K hK => ?_) AllReadyH.nil)
        rw [if_pos (by kernel_rfl)]
        go_wp2_with fail
        refine (C5.out _ Rv22.out).mono ?_
        rintro e v23 ⟨rfl, hfv23, hgv23⟩
        have Rv23 := Lib.hid (Rv22.out.next hfv23 hgv23)
        have Xv23 := Lib.hid (Xv22.out.next Rv22.out.hb hgv23)
        clear hfv23 hgv23
        go_wp2_with fail
        refine hK.out _ _ trivial (fun _ => ?_)
        clear hK K
        try simp only [Act.put, List.setIfInBounds_toArray, List.set_cons_zero, List.set_cons_succ]
        refine wpAnyH_ready (rs := [15]) (by kernel_rfl) (by simp) ?_
        refine (AllReadyH.cons rfl (fun K hK => ?_) AllReadyH.nil)
        rw [if_pos (by kernel_rfl)]
        go_wp2_with fail
        refine (C6.out _ Rv23.out).mono ?_
        rintro e v24 ⟨rfl, hfv24, hgv24⟩
        have Rv24 := Lib.hid (Rv23.out.next hfv24 hgv24)
        have Xv24 := Lib.hid (Xv23.out.next Rv23.out.hb hgv24)
        clear hfv24 hgv24
        go_wp2_with fail
        refine hK.out _ _ trivial (fun _ => ?_)
        clear hK K
        try simp only [Act.put, List.setIfInBounds_toArray, List.set_cons_zero, List.set_cons_succ]
        refine wpAnyH_take (i := 16) (oi := { dst := some 29, op := _, type := _, pos := _, after := _, guard := _ }) (v := ?_) rfl (by kernel_rfl) (by kernel_rfl) (by kernel_rfl) (fun _ _ _ h => h) (Or.inl ⟨by kernel_rfl, ?_⟩) (by assumption) ?_
        rotate_left
        · (intro w hSw; (try dsimp only at hSw); go_simp); all_goals (with_reducible rfl)
        try simp only [Act.put, List.setIfInBounds_toArray, List.set_cons_zero, List.set_cons_succ]
        refine wpAnyH_ready (rs := [18]) (by kernel_rfl) (by simp) ?_
        refine (AllReadyH.cons rfl (fun K hK => ?_) AllReadyH.nil)
        rw [if_pos (by kernel_rfl)]
        refine wp_store_row 56 _ _ (by rfl) _ #[.int .i64 n2, .int .i64 n3, .int .i64 n4, .string ⟨t5.toArray⟩, .int .i64 n6] (by rfl) (by rfl) 56 partZero (Xv24.out).at_ (by kernel_rfl) (by kernel_rfl) (by kernel_rfl) ?_
        refine hK.out _ _ trivial (fun _ => ?_)
        clear hK K
        try simp only [Act.put]
        refine wpAnyH_done (by kernel_rfl) ?_ _
        go_wp2_with fail
        go_meet
        case rel => exact ⟨_, rfl, Rv24.out.setRow _ Xv24.out.far, Xv24.out.set _⟩
    · rw [if_pos (by kernel_rfl)]
      go_wp2_with fail
      have Rv26 := Lib.hid (Rw2.out.later (below_alloc (Below.refl _ _) (Nat.le_refl _) (.cells partZero 56)))
      have Xv26 := Lib.hid (BoxAt.new Rw2.out partZero 56)
      refine hK.out _ (w2.alloc (.cells partZero 56)) trivial (fun _ => ?_)
      generalize w2.alloc (.cells partZero 56) = v26 at Rv26 Xv26 ⊢
      generalize w2.heap.size = gB at Xv26 ⊢
      clear hK K
      try simp only [Act.put, List.setIfInBounds_toArray, List.set_cons_zero, List.set_cons_succ]
      refine wpAnyH_ready (rs := [3]) (by kernel_rfl) (by simp) ?_
      refine (AllReadyH.cons rfl (fun K hK => ?_) AllReadyH.nil)
      rw [if_pos (by kernel_rfl)]
      go_wp2_with fail
      refine (C2.out _ Rv26.out).mono ?_
      rintro e v27 ⟨rfl, hfv27, hgv27⟩
      have Rv27 := Lib.hid (Rv26.out.next hfv27 hgv27)
      have Xv27 := Lib.hid (Xv26.out.next Rv26.out.hb hgv27)
      clear hfv27 hgv27
      go_wp2_with fail
      refine hK.out _ _ trivial (fun _ => ?_)
      clear hK K
      try simp only [Act.put, List.setIfInBounds_toArray, List.set_cons_zero, List.set_cons_succ]
      refine wpAnyH_ready (rs := [7]) (by kernel_rfl) (by simp) ?_
      refine (AllReadyH.cons rfl (fun K hK => ?_) AllReadyH.nil)
      rw [if_pos (by kernel_rfl)]
      go_wp2_with fail
      refine (C3.out _ Rv27.out).mono ?_
      rintro e v28 ⟨rfl, hfv28, hgv28⟩
      have Rv28 := Lib.hid (Rv27.out.next hfv28 hgv28)
      have Xv28 := Lib.hid (Xv27.out.next Rv27.out.hb hgv28)
      clear hfv28 hgv28
      go_wp2_with fail
      refine hK.out _ _ trivial (fun _ => ?_)
      clear hK K
      try simp only [Act.put, List.setIfInBounds_toArray, List.set_cons_zero, List.set_cons_succ]
      refine wpAnyH_ready (rs := [9]) (by kernel_rfl) (by simp) ?_
      refine (AllReadyH.cons rfl (fun K hK => ?_) AllReadyH.nil)
      rw [if_pos (by kernel_rfl)]
      go_wp2_with fail
      refine (C4.out _ Rv28.out).mono ?_
      rintro e v29 ⟨rfl, hfv29, hgv29⟩
      have Rv29 := Lib.hid (Rv28.out.next hfv29 hgv29)
      have Xv29 := Lib.hid (Xv28.out.next Rv28.out.hb hgv29)
      clear hfv29 hgv29
      go_wp2_with fail
      refine hK.out _ _ trivial (fun _ => ?_)
      clear hK K
      try simp only [Act.put, List.setIfInBounds_toArray, List.set_cons_zero, List.set_cons_succ]
      refine wpAnyH_ready (rs := [13]) (by kernel_rfl) (by simp) ?_
      refine (AllReadyH.cons rfl (fun K hK => ?_) AllReadyH.nil)
      rw [if_pos (by kernel_rfl)]
      go_wp2_with fail
      refine (C5.out _ Rv29.out).mono ?_
      rintro e v30 ⟨rfl, hfv30, hgv30⟩
      have Rv30 := Lib.hid (Rv29.out.next hfv30 hgv30)
      have Xv30 := Lib.hid (Xv29.out.next Rv29.out.hb hgv30)
      clear hfv30 hgv30
      go_wp2_with fail
      refine hK.out _ _ trivial (fun _ => ?_)
      clear hK K
      try simp only [Act.put, List.setIfInBounds_toArray, List.set_cons_zero, List.set_cons_succ]
      refine wpAnyH_ready (rs := [15]) (by kernel_rfl) (by simp) ?_
      refine (AllReadyH.cons rfl (fun K hK => ?_) AllReadyH.nil)
      rw [if_pos (by kernel_rfl)]
      go_wp2_with fail
      refine (C6.out _ Rv30.out).mono ?_
      rintro e v31 ⟨rfl, hfv31, hgv31⟩
      have Rv31 := Lib.hid (Rv30.out.next hfv31 hgv31)
      have Xv31 := Lib.hid (Xv30.out.next Rv30.out.hb hgv31)
      clear hfv31 hgv31
      go_wp2_with fail
      refine hK.out _ _ trivial (fun _ => ?_)
      clear hK K
      try simp only [Act.put, List.setIfInBounds_toArray, List.set_cons_zero, List.set_cons_succ]
      refine wpAnyH_take (i := 16) (oi := { dst := some 29, op := _, type := _, pos := _, after := _, guard := _ }) (v := ?_) rfl (by kernel_rfl) (by kernel_rfl) (by kernel_rfl) (fun _ _ _ h => h) (Or.inl ⟨by kernel_rfl, ?_⟩) (by assumption) ?_
      rotate_left
      · (intro w hSw; (try dsimp only at hSw); go_simp); all_goals (with_reducible rfl)
      try simp only [Act.put, List.setIfInBounds_toArray, List.set_cons_zero, List.set_cons_succ]
      refine wpAnyH_ready (rs := [18]) (by kernel_rfl) (by simp) ?_
      refine (AllReadyH.cons rfl (fun K hK => ?_) AllReadyH.nil)
      rw [if_pos (by kernel_rfl)]
      refine wp_store_row 56 _ _ (by rfl) _ #[.int .i64 n2, .int .i64 n3, .int .i64 n4, .string ⟨t5.toArray⟩, .int .i64 n6] (by rfl) (by rfl) 56 partZero (Xv31.out).at_ (by kernel_rfl) (by kernel_rfl) (by kernel_rfl) ?_
      refine hK.out _ _ trivial (fun _ => ?_)
      clear hK K
      try simp only [Act.put]
      refine wpAnyH_done (by kernel_rfl) ?_ _
      go_wp2_with fail
      go_meet
      case rel => exact ⟨_, rfl, Rv31.out.setRow _ Xv31.out.far, Xv31.out.set _⟩
  case rest =>
    obtain ⟨gB, rfl, hR, hX⟩ := hcut
    obtain ⟨wx, rfl⟩ : ∃ wx : World, wx = wc := ⟨_, rfl⟩
    have RX := Lib.hid hR
    have XX := Lib.hid hX
    have D := Lib.hid (fun W h => done_any b f6 W h)
    clear hR hX
    go_wp2_with fail
    refine (D.out _ RX.out.inf).mono ?_
    rintro e w' ⟨rfl, rfl⟩
    rcases HDD.out with h0 | h0
    · have HR2 : Hid (res = some ⟨n2, n3, n4, t5, n6⟩) := by show _ = _; rw [HRES.out, if_pos h0]
      rw [h0]
      clear h0
      go_wp2_with (first
        | (refine wpList_load_row (by rfl) 56 _ (by rfl) gB (by rfl) 56 _ (0, 0) _ (by exact XX.out.at_) Tryz.underlying56 rfl (by kernel_rfl) ?_)
        | (refine wpList_store_row (by rfl) 56 _ _ (by rfl) w.heap.size _ (by rfl) (by rfl) 56 _ (by exact RX.out.rb) (by kernel_rfl) (by kernel_rfl) (by kernel_rfl) ?_))
      refine bodyPost_ret (results_cell_tmp rfl _ _ w.heap.size 56 _ _ rfl (setRow_heap _ _ _ _ _ _ RX.out.rb) Tryz.underlying56 rfl (by kernel_rfl)) rfl ?_
      rw [HR2.out]
      exact ⟨rfl, below_one_row _ _ _ _ _ RX.out.below (Nat.le_refl _)⟩
    · have HR2 : Hid (res = none) := by show _ = _; rw [HRES.out, if_neg (by omega)]
      rw [h0]
      clear h0
      go_wp2_with (refine wpList_store_row (by rfl) 56 _ _ (by rfl) w.heap.size _ (by rfl) (by rfl) 56 _ (by exact RX.out.rb) (by kernel_rfl) (by kernel_rfl) (by kernel_rfl) ?_)
      refine bodyPost_ret (results_cell_tmp rfl _ _ w.heap.size 56 _ _ rfl (setRow_heap _ _ _ _ _ _ RX.out.rb) Tryz.underlying56 rfl (by kernel_rfl)) rfl ?_
      rw [HR2.out]
      exact ⟨rfl, below_one_row _ _ _ _ _ RX.out.below (Nat.le_refl _)⟩

end Go.Proofs.YtajmkkjlhmeolaaGreatDoor
