/-
  meta.ReadUpload: the walk. (Printed by wip/gen/mtup.py.)
-/
import Derived.Test.YtajmkkjlhmeolaaGreatDoorMtUpP
import Derived.Test.YtajmkkjlhmeolaaGreatDoorMtBucketW
namespace Go.Proofs.YtajmkkjlhmeolaaGreatDoor
open Go.RowKit

theorem RdAt.flag {w wk : World} {b : Nat} {r : List UInt8} {x : Bool} {zc : Array Value} {zt : TypeId} (h : RdAt w wk b ⟨r, x⟩ zc zt) (y : Bool) : RdAt w (wk.setCell ⟨b, 1, none⟩ (.bool y)) b ⟨r, y⟩ zc zt :=
  h.next (inF_bad h.inf y) (only_set (World.grownBy.refl _ _) _ _)
theorem BoxAt.flag {w wk : World} {b g : Nat} {f : Fs} {cs : Array Value} {t zt : TypeId} {zc : Array Value} (h : BoxAt w wk g cs t) (hr : RdAt w wk b f zc zt) (y : Bool) : BoxAt w (wk.setCell ⟨b, 1, none⟩ (.bool y)) g cs t :=
  h.next hr.hb (only_set (World.grownBy.refl _ _) _ _)

/-- what ReadUpload leaves -/
def UpOut (o : Option UpV) (w : World) (e : Ending) (w' : World) : Prop :=
  e = .returned (.tuple #[.agg (match o with | some p => p.cells | none => upZero), .int .i64 (match o with | some _ => 0 | none => 59)]) ∧ Below w.heap.size w w'

set_option maxHeartbeats 4000000 in
set_option maxRecDepth 100000 in
theorem readUp_any (s : List UInt8) (w : World) (hG : GlobK w) (hl : s.length ≤ 140737488351232) : Calls Tryz.prog 28 #[.string ⟨s.toArray⟩] w (UpOut (readUpL s) w) := by
  have HG : Hid (∀ W, Below w.heap.size w W → GlobK W) := fun W hW => hG.later hW
  have HRES : Hid (readUpL s = if doneF ⟨(ru7 s).2.rest, (ru7 s).2.bad || !bucketB (ru3 s).1 || (ru4 s).1.isEmpty⟩ = 0 then some ⟨(ru2 s).1, (ru3 s).1, (ru4 s).1, (ru5 s).1, (ru6 s).1, (ru7 s).1⟩ else none) := rfl
  obtain ⟨res, hres⟩ : ∃ r, Hid (readUpL s = r) := ⟨_, rfl⟩
  rw [hres.out] at HRES ⊢
  clear hres
  have R0 := Lib.hid (RdAt.start hG.g s upZero 52)
  obtain ⟨b, hb⟩ : ∃ b, b = w.heap.size + 1 := ⟨_, rfl⟩
  rw [← hb] at R0
  have l1 : (ru1 s).rest.length ≤ 140737488351232 := Nat.le_trans (ofF_len _ _) hl
  have l2 : (ru2 s).2.rest.length ≤ 140737488351232 := Nat.le_trans (numberF_len _ _ _) l1
  have l3 : (ru3 s).2.rest.length ≤ 140737488351232 := Nat.le_trans ((textF_len _).2) l2
  have m3 : (ru3 s).1.length ≤ 140737488351232 := Nat.le_trans ((textF_len _).1) l2
  have l4 : (ru4 s).2.rest.length ≤ 140737488351232 := Nat.le_trans ((shortF_len _ _).2) l3
  have m4 : (ru4 s).1.length ≤ 140737488351232 := Nat.le_trans ((shortF_len _ _).1) l3
  have l5 : (ru5 s).2.rest.length ≤ 140737488351232 := Nat.le_trans ((shortF_len _ _).2) l4
  have m5 : (ru5 s).1.length ≤ 140737488351232 := Nat.le_trans ((shortF_len _ _).1) l4
  have l6 : (ru6 s).2.rest.length ≤ 140737488351232 := Nat.le_trans ((shortF_len _ _).2) l5
  have m6 : (ru6 s).1.length ≤ 140737488351232 := Nat.le_trans ((shortF_len _ _).1) l5
  have l7 : (ru7 s).2.rest.length ≤ 140737488351232 := Nat.le_trans (numberF_len _ _ _) l6
  have C1 : Hid (∀ W, RdAt w W b ⟨s, false⟩ upZero 52 → Calls Tryz.prog 59 #[.pointer (some ⟨b, 0, none⟩), .string ⟨#[85]⟩] W (BoolOut b (!(ru1 s).bad) (ru1 s) W)) := fun W h => of_any b [85] ⟨s, false⟩ W rfl h.glob h.inf hl
  have C2 : Hid (∀ W, RdAt w W b (ru1 s) upZero 52 → Calls Tryz.prog 66 #[.pointer (some ⟨b, 0, none⟩)] W (NumOut b (ru2 s).1 (ru2 s).2 W)) := fun W h => seq_any b (ru1 s) W h.glob h.big h.inf l1
  have C3 : Hid (∀ W, RdAt w W b (ru2 s).2 upZero 52 → Calls Tryz.prog 60 #[.pointer (some ⟨b, 0, none⟩)] W (TextOut b (ru3 s).1 (ru3 s).2 W)) := fun W h => text_any b (ru2 s).2 W h.glob h.inf l2
  have C4 : Hid (∀ W, RdAt w W b (ru3 s).2 upZero 52 → Calls Tryz.prog 61 #[.pointer (some ⟨b, 0, none⟩), .int .i64 100] W (TextOut b (ru4 s).1 (ru4 s).2 W)) := fun W h => short_any b 100 (ru3 s).2 W (by unfold IntOK; omega) h.glob h.inf l3
  have C5 : Hid (∀ W, RdAt w W b (ru4 s).2 upZero 52 → Calls Tryz.prog 61 #[.pointer (some ⟨b, 0, none⟩), .int .i64 200] W (TextOut b (ru5 s).1 (ru5 s).2 W)) := fun W h => short_any b 200 (ru4 s).2 W (by unfold IntOK; omega) h.glob h.inf l4
  have C6 : Hid (∀ W, RdAt w W b (ru5 s).2 upZero 52 → Calls Tryz.prog 61 #[.pointer (some ⟨b, 0, none⟩), .int .i64 100] W (TextOut b (ru6 s).1 (ru6 s).2 W)) := fun W h => short_any b 100 (ru5 s).2 W (by unfold IntOK; omega) h.glob h.inf l5
  have C7 : Hid (∀ W, RdAt w W b (ru6 s).2 upZero 52 → Calls Tryz.prog 62 #[.pointer (some ⟨b, 0, none⟩)] W (NumOut b (ru7 s).1 (ru7 s).2 W)) := fun W h => when_any b (ru6 s).2 W h.glob h.big h.inf l6
  have CB := Lib.hid (fun W (h : GlobK W) => bucket_any (ru3 s).1 (by omega) W h)
  clear m3 m4 m5 m6
  clear l1 l2 l3 l4 l5 l6 l7
  generalize ru1 s = f1 at *
  generalize ru2 s = p2 at *
  generalize ru3 s = p3 at *
  generalize ru4 s = p4 at *
  generalize ru5 s = p5 at *
  generalize ru6 s = p6 at *
  generalize ru7 s = p7 at *
  obtain ⟨n2, f2⟩ := p2
  obtain ⟨t3, f3⟩ := p3
  obtain ⟨t4, f4⟩ := p4
  obtain ⟨t5, f5⟩ := p5
  obtain ⟨t6, f6⟩ := p6
  obtain ⟨n7, f7⟩ := p7
  simp only at *
  have HB := Lib.hid hb
  clear hG
  go_enter Tryz.func28, Tryz.ntmps28
  go_wp2_with fail
  rw [← hb]
  clear hb
  refine (C1.out _ R0.out).mono ?_
  rintro e w1 ⟨rfl, hf1, hg1⟩
  have R1 := Lib.hid (R0.out.next hf1 hg1)
  clear hf1 hg1 R0
  go_wp2_with fail
  go_cut [5] (fun s5 wx => ∃ gB : Nat, s5 = .pointer (some ⟨gB, 0, none⟩) ∧ RdAt w wx b f7 upZero 52 ∧ BoxAt w wx gB #[.int .i64 n2, .string ⟨t3.toArray⟩, .string ⟨t4.toArray⟩, .string ⟨t5.toArray⟩, .string ⟨t6.toArray⟩, .int .i64 n7, .slice none 0 0] 52)
  case first =>
    refine wp_region_held_drew (S := (fun _ => True)) (by kernel_rfl) trivial (fun hS0 => ?_)
    have Rw2 : Hid (RdAt w w1.drew b f1 upZero 52) := R1.out.later (Below.refl _ _).drew
    generalize w1.drew = w2 at Rw2 ⊢
    refine wpAnyH_take (i := 0) (oi := { dst := some 13, op := _, type := _, pos := _, after := _, guard := _ }) (v := ?_) rfl (by kernel_rfl) (by kernel_rfl) (by kernel_rfl) (fun _ _ _ h => h) (Or.inl ⟨by kernel_rfl, ?_⟩) (by assumption) ?_
    rotate_left
    · (intro w hSw; (try dsimp only at hSw); go_simp); all_goals (with_reducible rfl)
    try simp only [Act.put, List.setIfInBounds_toArray, List.set_cons_zero, List.set_cons_succ]
    refine wpAnyH_take (i := 2) (oi := { dst := some 15, op := _, type := _, pos := _, after := _, guard := _ }) (v := ?_) rfl (by kernel_rfl) (by kernel_rfl) (by kernel_rfl) (fun _ _ _ h => h) (Or.inl ⟨by kernel_rfl, ?_⟩) (by assumption) ?_
    rotate_left
    · (intro w hSw; (try dsimp only at hSw); go_simp); all_goals (with_reducible rfl)
    try simp only [Act.put, List.setIfInBounds_toArray, List.set_cons_zero, List.set_cons_succ]
    refine wpAnyH_take (i := 3) (oi := { dst := some 16, op := _, type := _, pos := _, after := _, guard := _ }) (v := ?_) rfl (by kernel_rfl) (by kernel_rfl) (by kernel_rfl) (fun _ _ _ h => h) (Or.inl ⟨by kernel_rfl, ?_⟩) (by assumption) ?_
    rotate_left
    · (intro w hSw; (try dsimp only at hSw); go_simp); all_goals (with_reducible rfl)
    try simp only [Act.put, List.setIfInBounds_toArray, List.set_cons_zero, List.set_cons_succ]
    refine wpAnyH_take (i := 4) (oi := { dst := some 17, op := _, type := _, pos := _, after := _, guard := _ }) (v := ?_) rfl (by kernel_rfl) (by kernel_rfl) (by kernel_rfl) (fun _ _ _ h => h) (Or.inl ⟨by kernel_rfl, ?_⟩) (by assumption) ?_
    rotate_left
    · (intro w hSw; (try dsimp only at hSw); go_simp); all_goals (with_reducible rfl)
    try simp only [Act.put, List.setIfInBounds_toArray, List.set_cons_zero, List.set_cons_succ]
    refine wpAnyH_take (i := 6) (oi := { dst := some 19, op := _, type := _, pos := _, after := _, guard := _ }) (v := ?_) rfl (by kernel_rfl) (by kernel_rfl) (by kernel_rfl) (fun _ _ _ h => h) (Or.inl ⟨by kernel_rfl, ?_⟩) (by assumption) ?_
    rotate_left
    · (intro w hSw; (try dsimp only at hSw); go_simp); all_goals (with_reducible rfl)
    try simp only [Act.put, List.setIfInBounds_toArray, List.set_cons_zero, List.set_cons_succ]
    refine wpAnyH_take (i := 7) (oi := { dst := some 20, op := _, type := _, pos := _, after := _, guard := _ }) (v := ?_) rfl (by kernel_rfl) (by kernel_rfl) (by kernel_rfl) (fun _ _ _ h => h) (Or.inl ⟨by kernel_rfl, ?_⟩) (by assumption) ?_
    rotate_left
    · (intro w hSw; (try dsimp only at hSw); go_simp); all_goals (with_reducible rfl)
    try simp only [Act.put, List.setIfInBounds_toArray, List.set_cons_zero, List.set_cons_succ]
    refine wpAnyH_take (i := 8) (oi := { dst := some 21, op := _, type := _, pos := _, after := _, guard := _ }) (v := ?_) rfl (by kernel_rfl) (by kernel_rfl) (by kernel_rfl) (fun _ _ _ h => h) (Or.inl ⟨by kernel_rfl, ?_⟩) (by assumption) ?_
    rotate_left
    · (intro w hSw; (try dsimp only at hSw); go_simp); all_goals (with_reducible rfl)
    try simp only [Act.put, List.setIfInBounds_toArray, List.set_cons_zero, List.set_cons_succ]
    refine wpAnyH_take (i := 10) (oi := { dst := some 23, op := _, type := _, pos := _, after := _, guard := _ }) (v := ?_) rfl (by kernel_rfl) (by kernel_rfl) (by kernel_rfl) (fun _ _ _ h => h) (Or.inl ⟨by kernel_rfl, ?_⟩) (by assumption) ?_
    rotate_left
    · (intro w hSw; (try dsimp only at hSw); go_simp); all_goals (with_reducible rfl)
    try simp only [Act.put, List.setIfInBounds_toArray, List.set_cons_zero, List.set_cons_succ]
    refine wpAnyH_take (i := 11) (oi := { dst := some 24, op := _, type := _, pos := _, after := _, guard := _ }) (v := ?_) rfl (by kernel_rfl) (by kernel_rfl) (by kernel_rfl) (fun _ _ _ h => h) (Or.inl ⟨by kernel_rfl, ?_⟩) (by assumption) ?_
    rotate_left
    · (intro w hSw; (try dsimp only at hSw); go_simp); all_goals (with_reducible rfl)
    try simp only [Act.put, List.setIfInBounds_toArray, List.set_cons_zero, List.set_cons_succ]
    refine wpAnyH_take (i := 12) (oi := { dst := some 25, op := _, type := _, pos := _, after := _, guard := _ }) (v := ?_) rfl (by kernel_rfl) (by kernel_rfl) (by kernel_rfl) (fun _ _ _ h => h) (Or.inl ⟨by kernel_rfl, ?_⟩) (by assumption) ?_
    rotate_left
    · (intro w hSw; (try dsimp only at hSw); go_simp); all_goals (with_reducible rfl)
    try simp only [Act.put, List.setIfInBounds_toArray, List.set_cons_zero, List.set_cons_succ]
    refine wpAnyH_take (i := 14) (oi := { dst := some 27, op := _, type := _, pos := _, after := _, guard := _ }) (v := ?_) rfl (by kernel_rfl) (by kernel_rfl) (by kernel_rfl) (fun _ _ _ h => h) (Or.inl ⟨by kernel_rfl, ?_⟩) (by assumption) ?_
    rotate_left
    · (intro w hSw; (try dsimp only at hSw); go_simp); all_goals (with_reducible rfl)
    try simp only [Act.put, List.setIfInBounds_toArray, List.set_cons_zero, List.set_cons_succ]
    refine wpAnyH_take (i := 15) (oi := { dst := some 28, op := _, type := _, pos := _, after := _, guard := _ }) (v := ?_) rfl (by kernel_rfl) (by kernel_rfl) (by kernel_rfl) (fun _ _ _ h => h) (Or.inl ⟨by kernel_rfl, ?_⟩) (by assumption) ?_
    rotate_left
    · (intro w hSw; (try dsimp only at hSw); go_simp); all_goals (with_reducible rfl)
    try simp only [Act.put, List.setIfInBounds_toArray, List.set_cons_zero, List.set_cons_succ]
    refine wpAnyH_take (i := 16) (oi := { dst := some 29, op := _, type := _, pos := _, after := _, guard := _ }) (v := ?_) rfl (by kernel_rfl) (by kernel_rfl) (by kernel_rfl) (fun _ _ _ h => h) (Or.inl ⟨by kernel_rfl, ?_⟩) (by assumption) ?_
    rotate_left
    · (intro w hSw; (try dsimp only at hSw); go_simp); all_goals (with_reducible rfl)
    try simp only [Act.put, List.setIfInBounds_toArray, List.set_cons_zero, List.set_cons_succ]
    refine wpAnyH_take (i := 18) (oi := { dst := some 31, op := _, type := _, pos := _, after := _, guard := _ }) (v := ?_) rfl (by kernel_rfl) (by kernel_rfl) (by kernel_rfl) (fun _ _ _ h => h) (Or.inl ⟨by kernel_rfl, ?_⟩) (by assumption) ?_
    rotate_left
    · (intro w hSw; (try dsimp only at hSw); go_simp); all_goals (with_reducible rfl)
    try simp only [Act.put, List.setIfInBounds_toArray, List.set_cons_zero, List.set_cons_succ]
    refine wpAnyH_ready (rs := [1, 21]) (by kernel_rfl) (by simp) ?_
    refine (AllReadyH.cons rfl (fun K hK => ?_) (AllReadyH.cons rfl (fun K hK => ?_) AllReadyH.nil))
    · rw [if_pos (by kernel_rfl)]
      go_wp2_with fail
      refine (C2.out _ Rw2.out).mono ?_
      rintro e v1 ⟨rfl, hfv1, hgv1⟩
      have Rv1 := Lib.hid (Rw2.out.next hfv1 hgv1)
      clear hfv1 hgv1
      go_wp2_with fail
      refine hK.out _ _ trivial (fun _ => ?_)
      clear hK K
      try simp only [Act.put, List.setIfInBounds_toArray, List.set_cons_zero, List.set_cons_succ]
      refine wpAnyH_ready (rs := [5, 21]) (by kernel_rfl) (by simp) ?_
      refine (AllReadyH.cons rfl (fun K hK => ?_) (AllReadyH.cons rfl (fun K hK => ?_) AllReadyH.nil))
      · rw [if_pos (by kernel_rfl)]
        go_wp2_with fail
        refine (C3.out _ Rv1.out).mono ?_
        rintro e v2 ⟨rfl, hfv2, hgv2⟩
        have Rv2 := Lib.hid (Rv1.out.next hfv2 hgv2)
        clear hfv2 hgv2
        go_wp2_with fail
        refine hK.out _ _ trivial (fun _ => ?_)
        clear hK K
        try simp only [Act.put, List.setIfInBounds_toArray, List.set_cons_zero, List.set_cons_succ]
        refine wpAnyH_ready (rs := [9, 21]) (by kernel_rfl) (by simp) ?_
        refine (AllReadyH.cons rfl (fun K hK => ?_) (AllReadyH.cons rfl (fun K hK => ?_) AllReadyH.nil))
        · rw [if_pos (by kernel_rfl)]
          go_wp2_with fail
          refine (C4.out _ Rv2.out).mono ?_
          rintro e v3 ⟨rfl, hfv3, hgv3⟩
          have Rv3 := Lib.hid (Rv2.out.next hfv3 hgv3)
          clear hfv3 hgv3
          go_wp2_with fail
          refine hK.out _ _ trivial (fun _ => ?_)
          clear hK K
          try simp only [Act.put, List.setIfInBounds_toArray, List.set_cons_zero, List.set_cons_succ]
          refine wpAnyH_ready (rs := [13, 21]) (by kernel_rfl) (by simp) ?_
          refine (AllReadyH.cons rfl (fun K hK => ?_) (AllReadyH.cons rfl (fun K hK => ?_) AllReadyH.nil))
          · rw [if_pos (by kernel_rfl)]
            go_wp2_with fail
            refine (C5.out _ Rv3.out).mono ?_
            rintro e v4 ⟨rfl, hfv4, hgv4⟩
            have Rv4 := Lib.hid (Rv3.out.next hfv4 hgv4)
            clear hfv4 hgv4
            go_wp2_with fail
            refine hK.out _ _ trivial (fun _ => ?_)
            clear hK K
            try simp only [Act.put, List.setIfInBounds_toArray, List.set_cons_zero, List.set_cons_succ]
            refine wpAnyH_ready (rs := [17, 21]) (by kernel_rfl) (by simp) ?_
            refine (AllReadyH.cons rfl (fun K hK => ?_) (AllReadyH.cons rfl (fun K hK => ?_) AllReadyH.nil))
            · rw [if_pos (by kernel_rfl)]
              go_wp2_with fail
              refine (C6.out _ Rv4.out).mono ?_
              rintro e v5 ⟨rfl, hfv5, hgv5⟩
              have Rv5 := Lib.hid (Rv4.out.next hfv5 hgv5)
              clear hfv5 hgv5
              go_wp2_with fail
              refine hK.out _ _ trivial (fun _ => ?_)
              clear hK K
              try simp only [Act.put, List.setIfInBounds_toArray, List.set_cons_zero, List.set_cons_succ]
              refine wpAnyH_ready (rs := [19, 21]) (by kernel_rfl) (by simp) ?_
              refine (AllReadyH.cons rfl (fun K hK => ?_) (AllReadyH.cons rfl (fun K hK => ?_) AllReadyH.nil))
              · rw [if_pos (by kernel_rfl)]
                go_wp2_with fail
                refine (C7.out _ Rv5.out).mono ?_
                rintro e v6 ⟨rfl, hfv6, hgv6⟩
                have Rv6 := Lib.hid (Rv5.out.next hfv6 hgv6)
                clear hfv6 hgv6
                go_wp2_with fail
                refine hK.out _ _ trivial (fun _ => ?_)
                clear hK K
                try simp only [Act.put, List.setIfInBounds_toArray, List.set_cons_zero, List.set_cons_succ]
                refine wpAnyH_take (i := 20) (oi := { dst := some 33, op := _, type := _, pos := _, after := _, guard := _ }) (v := ?_) rfl (by kernel_rfl) (by kernel_rfl) (by kernel_rfl) (fun _ _ _ h => h) (Or.inl ⟨by kernel_rfl, ?_⟩) (by assumption) ?_
                rotate_left
                · (intro w hSw; (try dsimp only at hSw); go_simp); all_goals (with_reducible rfl)
                try simp only [Act.put, List.setIfInBounds_toArray, List.set_cons_zero, List.set_cons_succ]
                refine wpAnyH_ready (rs := [21]) (by kernel_rfl) (by simp) ?_
                refine (AllReadyH.cons rfl (fun K hK => ?_) AllReadyH.nil)
                rw [if_pos (by kernel_rfl)]
                go_wp2_with fail
                have Rv7 := Lib.hid (Rv6.out.later (below_alloc (Below.refl _ _) (Nat.le_refl _) (.cells upZero 52)))
                have Xv7 := Lib.hid (BoxAt.new Rv6.out upZero 52)
                refine hK.out _ (v6.alloc (.cells upZero 52)) trivial (fun _ => ?_)
                generalize v6.alloc (.cells upZero 52) = v7 at Rv7 Xv7 ⊢
                generalize v6.heap.size = gB at Xv7 ⊢
                clear hK K
                try simp only [Act.put, List.setIfInBounds_toArray, List.set_cons_zero, List.set_cons_succ]
                refine wpAnyH_ready (rs := [22]) (by kernel_rfl) (by simp) ?_
                refine (AllReadyH.cons rfl (fun K hK => ?_) AllReadyH.nil)
                rw [if_pos (by kernel_rfl)]
                refine wp_store_row 52 _ _ (by rfl) _ #[.int .i64 n2, .string ⟨t3.toArray⟩, .string ⟨t4.toArray⟩, .string ⟨t5.toArray⟩, .string ⟨t6.toArray⟩, .int .i64 n7, .slice none 0 0] (by rfl) (by rfl) 52 upZero (Xv7.out).at_ (by kernel_rfl) (by kernel_rfl) (by kernel_rfl) ?_
                refine hK.out _ _ trivial (fun _ => ?_)
                clear hK K
                try simp only [Act.put]
                refine wpAnyH_done (by kernel_rfl) ?_ _
                go_wp2_with fail
                go_meet
                case rel => exact ⟨_, rfl, Rv7.out.setRow _ Xv7.out.far, Xv7.out.set _⟩
              · rw [if_pos (by kernel_rfl)]
                go_wp2_with fail
                have Rv9 := Lib.hid (Rv5.out.later (below_alloc (Below.refl _ _) (Nat.le_refl _) (.cells upZero 52)))
                have Xv9 := Lib.hid (BoxAt.new Rv5.out upZero 52)
                refine hK.out _ (v5.alloc (.cells upZero 52)) trivial (fun _ => ?_)
                generalize v5.alloc (.cells upZero 52) = v9 at Rv9 Xv9 ⊢
                generalize v5.heap.size = gB at Xv9 ⊢
                clear hK K
                try simp only [Act.put, List.setIfInBounds_toArray, List.set_cons_zero, List.set_cons_succ]
                refine wpAnyH_ready (rs := [19]) (by kernel_rfl) (by simp) ?_
                refine (AllReadyH.cons rfl (fun K hK => ?_) AllReadyH.nil)
                rw [if_pos (by kernel_rfl)]
                go_wp2_with fail
                refine (C7.out _ Rv9.out).mono ?_
                rintro e v10 ⟨rfl, hfv10, hgv10⟩
                have Rv10 := Lib.hid (Rv9.out.next hfv10 hgv10)
                have Xv10 := Lib.hid (Xv9.out.next Rv9.out.hb hgv10)
                clear hfv10 hgv10
                go_wp2_with fail
                refine hK.out _ _ trivial (fun _ => ?_)
                clear hK K
                try simp only [Act.put, List.setIfInBounds_toArray, List.set_cons_zero, List.set_cons_succ]
                refine wpAnyH_take (i := 20) (oi := { dst := some 33, op := _, type := _, pos := _, after := _, guard := _ }) (v := ?_) rfl (by kernel_rfl) (by kernel_rfl) (by kernel_rfl) (fun _ _ _ h => h) (Or.inl ⟨by kernel_rfl, ?_⟩) (by assumption) ?_
                rotate_left
                · (intro w hSw; (try dsimp only at hSw); go_simp); all_goals (with_reducible rfl)
                try simp only [Act.put, List.setIfInBounds_toArray, List.set_cons_zero, List.set_cons_succ]
                refine wpAnyH_ready (rs := [22]) (by kernel_rfl) (by simp) ?_
                refine (AllReadyH.cons rfl (fun K hK => ?_) AllReadyH.nil)
                rw [if_pos (by kernel_rfl)]
                refine wp_store_row 52 _ _ (by rfl) _ #[.int .i64 n2, .string ⟨t3.toArray⟩, .string ⟨t4.toArray⟩, .string ⟨t5.toArray⟩, .string ⟨t6.toArray⟩, .int .i64 n7, .slice none 0 0] (by rfl) (by rfl) 52 upZero (Xv10.out).at_ (by kernel_rfl) (by kernel_rfl) (by kernel_rfl) ?_
                refine hK.out _ _ trivial (fun _ => ?_)
                clear hK K
                try simp only [Act.put]
                refine wpAnyH_done (by kernel_rfl) ?_ _
                go_wp2_with fail
                go_meet
                case rel => exact ⟨_, rfl, Rv10.out.setRow _ Xv10.out.far, Xv10.out.set _⟩
            · rw [if_pos (by kernel_rfl)]
              go_wp2_with fail
              have Rv12 := Lib.hid (Rv4.out.later (below_alloc (Below.refl _ _) (Nat.le_refl _) (.cells upZero 52)))
              have Xv12 := Lib.hid (BoxAt.new Rv4.out upZero 52)
              refine hK.out _ (v4.alloc (.cells upZero 52)) trivial (fun _ => ?_)
              generalize v4.alloc (.cells upZero 52) = v12 at Rv12 Xv12 ⊢
              generalize v4.heap.size = gB at Xv12 ⊢
              clear hK K
              try simp only [Act.put, List.setIfInBounds_toArray, List.set_cons_zero, List.set_cons_succ]
              refine wpAnyH_ready (rs := [17]) (by kernel_rfl) (by simp) ?_
              refine (AllReadyH.cons rfl (fun K hK => ?_) AllReadyH.nil)
              rw [if_pos (by kernel_rfl)]
              go_wp2_with fail
              refine (C6.out _ Rv12.out).mono ?_
              rintro e v13 ⟨rfl, hfv13, hgv13⟩
              have Rv13 := Lib.hid (Rv12.out.next hfv13 hgv13)
              have Xv13 := Lib.hid (Xv12.out.next Rv12.out.hb hgv13)
              clear hfv13 hgv13
              go_wp2_with fail
              refine hK.out _ _ trivial (fun _ => ?_)
              clear hK K
              try simp only [Act.put, List.setIfInBounds_toArray, List.set_cons_zero, List.set_cons_succ]
              refine wpAnyH_ready (rs := [19]) (by kernel_rfl) (by simp) ?_
              refine (AllReadyH.cons rfl (fun K hK => ?_) AllReadyH.nil)
              rw [if_pos (by kernel_rfl)]
              go_wp2_with fail
              refine (C7.out _ Rv13.out).mono ?_
              rintro e v14 ⟨rfl, hfv14, hgv14⟩
              have Rv14 := Lib.hid (Rv13.out.next hfv14 hgv14)
              have Xv14 := Lib.hid (Xv13.out.next Rv13.out.hb hgv14)
              clear hfv14 hgv14
              go_wp2_with fail
              refine hK.out _ _ trivial (fun _ => ?_)
              clear hK K
              try simp only [Act.put, List.setIfInBounds_toArray, List.set_cons_zero, List.set_cons_succ]
              refine wpAnyH_take (i := 20) (oi := { dst := some 33, op := _, type := _, pos := _, after := _, guard := _ }) (v := ?_) rfl (by kernel_rfl) (by kernel_rfl) (by kernel_rfl) (fun _ _ _ h => h) (Or.inl ⟨by kernel_rfl, ?_⟩) (by assumption) ?_
              rotate_left
              · (intro w hSw; (try dsimp only at hSw); go_simp); all_goals (with_reducible rfl)
              try simp only [Act.put, List.setIfInBounds_toArray, List.set_cons_zero, List.set_cons_succ]
              refine wpAnyH_ready (rs := [22]) (by kernel_rfl) (by simp) ?_
              refine (AllReadyH.cons rfl (fun K hK => ?_) AllReadyH.nil)
              rw [if_pos (by kernel_rfl)]
              refine wp_store_row 52 _ _ (by rfl) _ #[.int .i64 n2, .string ⟨t3.toArray⟩, .string ⟨t4.toArray⟩, .string ⟨t5.toArray⟩, .string ⟨t6.toArray⟩, .int .i64 n7, .slice none 0 0] (by rfl) (by rfl) 52 upZero (Xv14.out).at_ (by kernel_rfl) (by kernel_rfl) (by kernel_rfl) ?_
              refine hK.out _ _ trivial (fun _ => ?_)
              clear hK K
              try simp only [Act.put]
              refine wpAnyH_done (by kernel_rfl) ?_ _
              go_wp2_with fail
              go_meet
              case rel => exact ⟨_, rfl, Rv14.out.setRow _ Xv14.out.far, Xv14.out.set _⟩
          · rw [if_pos (by kernel_rfl)]
            go_wp2_with fail
            have Rv16 := Lib.hid (Rv3.out.later (below_alloc (Below.refl _ _) (Nat.le_refl _) (.cells upZero 52)))
            have Xv16 := Lib.hid (BoxAt.new Rv3.out upZero 52)
            refine hK.out _ (v3.alloc (.cells upZero 52)) trivial (fun _ => ?_)
            generalize v3.alloc (.cells upZero 52) = v16 at Rv16 Xv16 ⊢
            generalize v3.heap.size = gB at Xv16 ⊢
            clear hK K
            try simp only [Act.put, List.setIfInBounds_toArray, List.set_cons_zero, List.set_cons_succ]
            refine wpAnyH_ready (rs := [13]) (by kernel_rfl) (by simp) ?_
            refine (AllReadyH.cons rfl (fun K hK => ?_) AllReadyH.nil)
            rw [if_pos (by kernel_rfl)]
            go_wp2_with fail
            refine (C5.out _ Rv16.out).mono ?_
            rintro e v17 ⟨rfl, hfv17, hgv17⟩
            have Rv17 := Lib.hid (Rv16.out.next hfv17 hgv17)
            have Xv17 := Lib.hid (Xv16.out.next Rv16.out.hb hgv17)
            clear hfv17 hgv17
            go_wp2_with fail
            refine hK.out _ _ trivial (fun _ => ?_)
            clear hK K
            try simp only [Act.put, List.setIfInBounds_toArray, List.set_cons_zero, List.set_cons_succ]
            refine wpAnyH_ready (rs := [17]) (by kernel_rfl) (by simp) ?_
            refine (AllReadyH.cons rfl (fun K hK => ?_) AllReadyH.nil)
            rw [if_pos (by kernel_rfl)]
            go_wp2_with fail
            refine (C6.out _ Rv17.out).mono ?_
            rintro e v18 ⟨rfl, hfv18, hgv18⟩
            have Rv18 := Lib.hid (Rv17.out.next hfv18 hgv18)
            have Xv18 := Lib.hid (Xv17.out.next Rv17.out.hb hgv18)
            clear hfv18 hgv18
            go_wp2_with fail
            refine hK.out _ _ trivial (fun _ => ?_)
            clear hK K
            try simp only [Act.put, List.setIfInBounds_toArray, List.set_cons_zero, List.set_cons_succ]
            refine wpAnyH_ready (rs := [19]) (by kernel_rfl) (by simp) ?_
            refine (AllReadyH.cons rfl (fun K hK => ?_) AllReadyH.nil)
            rw [if_pos (by kernel_rfl)]
            go_wp2_with fail
            refine (C7.out _ Rv18.out).mono ?_
            rintro e v19 ⟨rfl, hfv19, hgv19⟩
            have Rv19 := Lib.hid (Rv18.out.next hfv19 hgv19)
            have Xv19 := Lib.hid (Xv18.out.next Rv18.out.hb hgv19)
            clear hfv19 hgv19
            go_wp2_with fail
            refine hK.out _ _ trivial (fun _ => ?_)
            clear hK K
            try simp only [Act.put, List.setIfInBounds_toArray, List.set_cons_zero, List.set_cons_succ]
            refine wpAnyH_take (i := 20) (oi := { dst := some 33, op := _, type := _, pos := _, after := _, guard := _ }) (v := ?_) rfl (by kernel_rfl) (by kernel_rfl) (by kernel_rfl) (fun _ _ _ h => h) (Or.inl ⟨by kernel_rfl, ?_⟩) (by assumption) ?_
            rotate_left
            · (intro w hSw; (try dsimp only at hSw); go_simp); all_goals (with_reducible rfl)
            try simp only [Act.put, List.setIfInBounds_toArray, List.set_cons_zero, List.set_cons_succ]
            refine wpAnyH_ready (rs := [22]) (by kernel_rfl) (by simp) ?_
            refine (AllReadyH.cons rfl (fun K hK => ?_) AllReadyH.nil)
            rw [if_pos (by kernel_rfl)]
            refine wp_store_row 52 _ _ (by rfl) _ #[.int .i64 n2, .string ⟨t3.toArray⟩, .string ⟨t4.toArray⟩, .string ⟨t5.toArray⟩, .string ⟨t6.toArray⟩, .int .i64 n7, .slice none 0 0] (by rfl) (by rfl) 52 upZero (Xv19.out).at_ (by kernel_rfl) (by kernel_rfl) (by kernel_rfl) ?_
            refine hK.out _ _ trivial (fun _ => ?_)
            clear hK K
            try simp only [Act.put]
            refine wpAnyH_done (by kernel_rfl) ?_ _
            go_wp2_with fail
            go_meet
            case rel => exact ⟨_, rfl, Rv19.out.setRow _ Xv19.out.far, Xv19.out.set _⟩
        · rw [if_pos (by kernel_rfl)]
          go_wp2_with fail
          have Rv21 := Lib.hid (Rv2.out.later (below_alloc (Below.refl _ _) (Nat.le_refl _) (.cells upZero 52)))
          have Xv21 := Lib.hid (BoxAt.new Rv2.out upZero 52)
          refine hK.out _ (v2.alloc (.cells upZero 52)) trivial (fun _ => ?_)
          generalize v2.alloc (.cells upZero 52) = v21 at Rv21 Xv21 ⊢
          generalize v2.heap.size = gB at Xv21 ⊢
          clear hK K
          try simp only [Act.put, List.setIfInBounds_toArray, List.set_cons_zero, List.set_cons_succ]
          refine wpAnyH_ready (rs := [9]) (by kernel_rfl) (by simp) ?_
          refine (AllReadyH.cons rfl (fun K hK => ?_) AllReadyH.nil)
          rw [if_pos (by kernel_rfl)]
          go_wp2_with fail
          refine (C4.out _ Rv21.out).mono ?_
          rintro e v22 ⟨rfl, hfv22, hgv22⟩
          have Rv22 := Lib.hid (Rv21.out.next hfv22 hgv22)
          have Xv22 := Lib.hid (Xv21.out.next Rv21.out.hb hgv22)
          clear hfv22 hgv22
          go_wp2_with fail
          refine hK.out _ _ trivial (fun _ => ?_)
          clear hK K
          try simp only [Act.put, List.setIfInBounds_toArray, List.set_cons_zero, List.set_cons_succ]
          refine wpAnyH_ready (rs := [13]) (by kernel_rfl) (by simp) ?_
          refine (AllReadyH.cons rfl (fun K hK => ?_) AllReadyH.nil)
          rw [if_pos (by kernel_rfl)]
          go_wp2_with fail
          refine (C5.out _ Rv22.out).mono ?_
          rintro e v23 ⟨rfl, hfv23, hgv23⟩
          have Rv23 := Lib.hid (Rv22.out.next hfv23 hgv23)
          have Xv23 := Lib.hid (Xv22.out.next Rv22.out.hb hgv23)
          clear hfv23 hgv23
          go_wp2_with fail
          refine hK.out _ _ trivial (fun _ => ?_)
          clear hK K
          try simp only [Act.put, List.setIfInBounds_toArray, List.set_cons_zero, List.set_cons_succ]
          refine wpAnyH_ready (rs := [17]) (by kernel_rfl) (by simp) ?_
          refine (AllReadyH.cons rfl (fun K hK => ?_) AllReadyH.nil)
          rw [if_pos (by kernel_rfl)]
          go_wp2_with fail
          refine (C6.out _ Rv23.out).mono ?_
          rintro e v24 ⟨rfl, hfv24, hgv24⟩
          have Rv24 := Lib.hid (Rv23.out.next hfv24 hgv24)
          have Xv24 := Lib.hid (Xv23.out.next Rv23.out.hb hgv24)
          clear hfv24 hgv24
          go_wp2_with fail
          refine hK.out _ _ trivial (fun _ => ?_)
          clear hK K
          try simp only [Act.put, List.setIfInBounds_toArray, List.set_cons_zero, List.set_cons_succ]
          refine wpAnyH_ready (rs := [19]) (by kernel_rfl) (by simp) ?_
          refine (AllReadyH.cons rfl (fun K hK => ?_) AllReadyH.nil)
          rw [if_pos (by kernel_rfl)]
          go_wp2_with fail
          refine (C7.out _ Rv24.out).mono ?_
          rintro e v25 ⟨rfl, hfv25, hgv25⟩
          have Rv25 := Lib.hid (Rv24.out.next hfv25 hgv25)
          have Xv25 := Lib.hid (Xv24.out.next Rv24.out.hb hgv25)
          clear hfv25 hgv25
          go_wp2_with fail
          refine hK.out _ _ trivial (fun _ => ?_)
          clear hK K
          try simp only [Act.put, List.setIfInBounds_toArray, List.set_cons_zero, List.set_cons_succ]
          refine wpAnyH_take (i := 20) (oi := { dst := some 33, op := _, type := _, pos := _, after := _, guard := _ }) (v := ?_) rfl (by kernel_rfl) (by kernel_rfl) (by kernel_rfl) (fun _ _ _ h => h) (Or.inl ⟨by kernel_rfl, ?_⟩) (by assumption) ?_
          rotate_left
          · (intro w hSw; (try dsimp only at hSw); go_simp); all_goals (with_reducible rfl)
          try simp only [Act.put, List.setIfInBounds_toArray, List.set_cons_zero, List.set_cons_succ]
          refine wpAnyH_ready (rs := [22]) (by kernel_rfl) (by simp) ?_
          refine (AllReadyH.cons rfl (fun K hK => ?_) AllReadyH.nil)
          rw [if_pos (by kernel_rfl)]
          refine wp_store_row 52 _ _ (by rfl) _ #[.int .i64 n2, .string ⟨t3.toArray⟩, .string ⟨t4.toArray⟩, .string ⟨t5.toArray⟩, .string ⟨t6.toArray⟩, .int .i64 n7, .slice none 0 0] (by rfl) (by rfl) 52 upZero (Xv25.out).at_ (by kernel_rfl) (by kernel_rfl) (by kernel_rfl) ?_
          refine hK.out _ _ trivial (fun _ => ?_)
          clear hK K
          try simp only [Act.put]
          refine wpAnyH_done (by kernel_rfl) ?_ _
          go_wp2_with fail
          go_meet
          case rel => exact ⟨_, rfl, Rv25.out.setRow _ Xv25.out.far, Xv25.out.set _⟩
      · rw [if_pos (by kernel_rfl)]
        go_wp2_with fail
        have Rv27 := Lib.hid (Rv1.out.later (below_alloc (Below.refl _ _) (Nat.le_refl _) (.cells upZero 52)))
        have Xv27 := Lib.hid (BoxAt.new Rv1.out upZero 52)
        refine hK.out _ (v1.alloc (.cells upZero 52)) trivial (fun _ => ?_)
        generalize v1.alloc (.cells upZero 52) = v27 at Rv27 Xv27 ⊢
        generalize v1.heap.size = gB at Xv27 ⊢
        clear hK K
        try simp only [Act.put, List.setIfInBounds_toArray, List.set_cons_zero, List.set_cons_succ]
        refine wpAnyH_ready (rs := [5]) (by kernel_rfl) (by simp) ?_
        refine (AllReadyH.cons rfl (fun K hK => ?_) AllReadyH.nil)
        rw [if_pos (by kernel_rfl)]
        go_wp2_with fail
        refine (C3.out _ Rv27.out).mono ?_
        rintro e v28 ⟨rfl, hfv28, hgv28⟩
        have Rv28 := Lib.hid (Rv27.out.next hfv28 hgv28)
        have Xv28 := Lib.hid (Xv27.out.next Rv27.out.hb hgv28)
        clear hfv28 hgv28
        go_wp2_with fail
        refine hK.out _ _ trivial (fun _ => ?_)
        clear hK K
        try simp only [Act.put, List.setIfInBounds_toArray, List.set_cons_zero, List.set_cons_succ]
        refine wpAnyH_ready (rs := [9]) (by kernel_rfl) (by simp) ?_
        refine (AllReadyH.cons rfl (fun K hK => ?_) AllReadyH.nil)
        rw [if_pos (by kernel_rfl)]
        go_wp2_with fail
        refine (C4.out _ Rv28.out).mono ?_
        rintro e v29 ⟨rfl, hfv29, hgv29⟩
        have Rv29 := Lib.hid (Rv28.out.next hfv29 hgv29)
        have Xv29 := Lib.hid (Xv28.out.next Rv28.out.hb hgv29)
        clear hfv29 hgv29
        go_wp2_with fail
        refine hK.out _ _ trivial (fun _ => ?_)
        clear hK K
        try simp only [Act.put, List.setIfInBounds_toArray, List.set_cons_zero, List.set_cons_succ]
        refine wpAnyH_ready (rs := [13]) (by kernel_rfl) (by simp) ?_
        refine (AllReadyH.cons rfl (fun K hK => ?_) AllReadyH.nil)
        rw [if_pos (by kernel_rfl)]
        go_wp2_with fail
        refine (C5.out _ Rv29.out).mono ?_
        rintro e v30 ⟨rfl, hfv30, hgv30⟩
        have Rv30 := Lib.hid (Rv29.out.next hfv30 hgv30)
        have Xv30 := Lib.hid (Xv29.out.next Rv29.out.hb hgv30)
        clear hfv30 hgv30
        go_wp2_with fail
        refine hK.out _ _ trivial (fun _ => ?_)
        clear hK K
        try simp only [Act.put, List.setIfInBounds_toArray, List.set_cons_zero, List.set_cons_succ]
        refine wpAnyH_ready (rs := [17]) (by kernel_rfl) (by simp) ?_
        refine (AllReadyH.cons rfl (fun K hK => ?_) AllReadyH.nil)
        rw [if_pos (by kernel_rfl)]
        go_wp2_with fail
        refine (C6.out _ Rv30.out).mono ?_
        rintro e v31 ⟨rfl, hfv31, hgv31⟩
        have Rv31 := Lib.hid (Rv30.out.next hfv31 hgv31)
        have Xv31 := Lib.hid (Xv30.out.next Rv30.out.hb hgv31)
        clear hfv31 hgv31
        go_wp2_with fail
        refine hK.out _ _ trivial (fun _ => ?_)
        clear hK K
        try simp only [Act.put, List.setIfInBounds_toArray, List.set_cons_zero, List.set_cons_succ]
        refine wpAnyH_ready (rs := [19]) (by kernel_rfl) (by simp) ?_
        refine (AllReadyH.cons rfl (fun K hK => ?_) AllReadyH.nil)
        rw [if_pos (by kernel_rfl)]
        go_wp2_with fail
        refine (C7.out _ Rv31.out).mono ?_
        rintro e v32 ⟨rfl, hfv32, hgv32⟩
        have Rv32 := Lib.hid (Rv31.out.next hfv32 hgv32)
        have Xv32 := Lib.hid (Xv31.out.next Rv31.out.hb hgv32)
        clear hfv32 hgv32
        go_wp2_with fail
        refine hK.out _ _ trivial (fun _ => ?_)
        clear hK K
        try simp only [Act.put, List.setIfInBounds_toArray, List.set_cons_zero, List.set_cons_succ]
        refine wpAnyH_take (i := 20) (oi := { dst := some 33, op := _, type := _, pos := _, after := _, guard := _ }) (v := ?_) rfl (by kernel_rfl) (by kernel_rfl) (by kernel_rfl) (fun _ _ _ h => h) (Or.inl ⟨by kernel_rfl, ?_⟩) (by assumption) ?_
        rotate_left
        · (intro w hSw; (try dsimp only at hSw); go_simp); all_goals (with_reducible rfl)
        try simp only [Act.put, List.setIfInBounds_toArray, List.set_cons_zero, List.set_cons_succ]
        refine wpAnyH_ready (rs := [22]) (by kernel_rfl) (by simp) ?_
        refine (AllReadyH.cons rfl (fun K hK => ?_) AllReadyH.nil)
        rw [if_pos (by kernel_rfl)]
        refine wp_store_row 52 _ _ (by rfl) _ #[.int .i64 n2, .string ⟨t3.toArray⟩, .string ⟨t4.toArray⟩, .string ⟨t5.toArray⟩, .string ⟨t6.toArray⟩, .int .i64 n7, .slice none 0 0] (by rfl) (by rfl) 52 upZero (Xv32.out).at_ (by kernel_rfl) (by kernel_rfl) (by kernel_rfl) ?_
        refine hK.out _ _ trivial (fun _ => ?_)
        clear hK K
        try simp only [Act.put]
        refine wpAnyH_done (by kernel_rfl) ?_ _
        go_wp2_with fail
        go_meet
        case rel => exact ⟨_, rfl, Rv32.out.setRow _ Xv32.out.far, Xv32.out.set _⟩
    · rw [if_pos (by kernel_rfl)]
      go_wp2_with fail
      have Rv34 := Lib.hid (Rw2.out.later (below_alloc (Below.refl _ _) (Nat.le_refl _) (.cells upZero 52)))
      have Xv34 := Lib.hid (BoxAt.new Rw2.out upZero 52)
      refine hK.out _ (w2.alloc (.cells upZero 52)) trivial (fun _ => ?_)
      generalize w2.alloc (.cells upZero 52) = v34 at Rv34 Xv34 ⊢
      generalize w2.heap.size = gB at Xv34 ⊢
      clear hK K
      try simp only [Act.put, List.setIfInBounds_toArray, List.set_cons_zero, List.set_cons_succ]
      refine wpAnyH_ready (rs := [1]) (by kernel_rfl) (by simp) ?_
      refine (AllReadyH.cons rfl (fun K hK => ?_) AllReadyH.nil)
      rw [if_pos (by kernel_rfl)]
      go_wp2_with fail
      refine (C2.out _ Rv34.out).mono ?_
      rintro e v35 ⟨rfl, hfv35, hgv35⟩
      have Rv35 := Lib.hid (Rv34.out.next hfv35 hgv35)
      have Xv35 := Lib.hid (Xv34.out.next Rv34.out.hb hgv35)
      clear hfv35 hgv35
      go_wp2_with fail
      refine hK.out _ _ trivial (fun _ => ?_)
      clear hK K
      try simp only [Act.put, List.setIfInBounds_toArray, List.set_cons_zero, List.set_cons_succ]
      refine wpAnyH_ready (rs := [5]) (by kernel_rfl) (by simp) ?_
      refine (AllReadyH.cons rfl (fun K hK => ?_) AllReadyH.nil)
      rw [if_pos (by kernel_rfl)]
      go_wp2_with fail
      refine (C3.out _ Rv35.out).mono ?_
      rintro e v36 ⟨rfl, hfv36, hgv36⟩
      have Rv36 := Lib.hid (Rv35.out.next hfv36 hgv36)
      have Xv36 := Lib.hid (Xv35.out.next Rv35.out.hb hgv36)
      clear hfv36 hgv36
      go_wp2_with fail
      refine hK.out _ _ trivial (fun _ => ?_)
      clear hK K
      try simp only [Act.put, List.setIfInBounds_toArray, List.set_cons_zero, List.set_cons_succ]
      refine wpAnyH_ready (rs := [9]) (by kernel_rfl) (by simp) ?_
      refine (AllReadyH.cons rfl (fun K hK => ?_) AllReadyH.nil)
      rw [if_pos (by kernel_rfl)]
      go_wp2_with fail
      refine (C4.out _ Rv36.out).mono ?_
      rintro e v37 ⟨rfl, hfv37, hgv37⟩
      have Rv37 := Lib.hid (Rv36.out.next hfv37 hgv37)
      have Xv37 := Lib.hid (Xv36.out.next Rv36.out.hb hgv37)
      clear hfv37 hgv37
      go_wp2_with fail
      refine hK.out _ _ trivial (fun _ => ?_)
      clear hK K
      try simp only [Act.put, List.setIfInBounds_toArray, List.set_cons_zero, List.set_cons_succ]
      refine wpAnyH_ready (rs := [13]) (by kernel_rfl) (by simp) ?_
      refine (AllReadyH.cons rfl (fun K hK => ?_) AllReadyH.nil)
      rw [if_pos (by kernel_rfl)]
      go_wp2_with fail
      refine (C5.out _ Rv37.out).mono ?_
      rintro e v38 ⟨rfl, hfv38, hgv38⟩
      have Rv38 := Lib.hid (Rv37.out.next hfv38 hgv38)
      have Xv38 := Lib.hid (Xv37.out.next Rv37.out.hb hgv38)
      clear hfv38 hgv38
      go_wp2_with fail
      refine hK.out _ _ trivial (fun _ => ?_)
      clear hK K
      try simp only [Act.put, List.setIfInBounds_toArray, List.set_cons_zero, List.set_cons_succ]
      refine wpAnyH_ready (rs := [17]) (by kernel_rfl) (by simp) ?_
      refine (AllReadyH.cons rfl (fun K hK => ?_) AllReadyH.nil)
      rw [if_pos (by kernel_rfl)]
      go_wp2_with fail
      refine (C6.out _ Rv38.out).mono ?_
      rintro e v39 ⟨rfl, hfv39, hgv39⟩
      have Rv39 := Lib.hid (Rv38.out.next hfv39 hgv39)
      have Xv39 := Lib.hid (Xv38.out.next Rv38.out.hb hgv39)
      clear hfv39 hgv39
      go_wp2_with fail
      refine hK.out _ _ trivial (fun _ => ?_)
      clear hK K
      try simp only [Act.put, List.setIfInBounds_toArray, List.set_cons_zero, List.set_cons_succ]
      refine wpAnyH_ready (rs := [19]) (by kernel_rfl) (by simp) ?_
      refine (AllReadyH.cons rfl (fun K hK => ?_) AllReadyH.nil)
      rw [if_pos (by kernel_rfl)]
      go_wp2_with fail
      refine (C7.out _ Rv39.out).mono ?_
      rintro e v40 ⟨rfl, hfv40, hgv40⟩
      have Rv40 := Lib.hid (Rv39.out.next hfv40 hgv40)
      have Xv40 := Lib.hid (Xv39.out.next Rv39.out.hb hgv40)
      clear hfv40 hgv40
      go_wp2_with fail
      refine hK.out _ _ trivial (fun _ => ?_)
      clear hK K
      try simp only [Act.put, List.setIfInBounds_toArray, List.set_cons_zero, List.set_cons_succ]
      refine wpAnyH_take (i := 20) (oi := { dst := some 33, op := _, type := _, pos := _, after := _, guard := _ }) (v := ?_) rfl (by kernel_rfl) (by kernel_rfl) (by kernel_rfl) (fun _ _ _ h => h) (Or.inl ⟨by kernel_rfl, ?_⟩) (by assumption) ?_
      rotate_left
      · (intro w hSw; (try dsimp only at hSw); go_simp); all_goals (with_reducible rfl)
      try simp only [Act.put, List.setIfInBounds_toArray, List.set_cons_zero, List.set_cons_succ]
      refine wpAnyH_ready (rs := [22]) (by kernel_rfl) (by simp) ?_
      refine (AllReadyH.cons rfl (fun K hK => ?_) AllReadyH.nil)
      rw [if_pos (by kernel_rfl)]
      refine wp_store_row 52 _ _ (by rfl) _ #[.int .i64 n2, .string ⟨t3.toArray⟩, .string ⟨t4.toArray⟩, .string ⟨t5.toArray⟩, .string ⟨t6.toArray⟩, .int .i64 n7, .slice none 0 0] (by rfl) (by rfl) 52 upZero (Xv40.out).at_ (by kernel_rfl) (by kernel_rfl) (by kernel_rfl) ?_
      refine hK.out _ _ trivial (fun _ => ?_)
      clear hK K
      try simp only [Act.put]
      refine wpAnyH_done (by kernel_rfl) ?_ _
      go_wp2_with fail
      go_meet
      case rel => exact ⟨_, rfl, Rv40.out.setRow _ Xv40.out.far, Xv40.out.set _⟩
  case rest =>
    obtain ⟨gB, rfl, hR, hX⟩ := hcut
    obtain ⟨wx, rfl⟩ : ∃ wx : World, wx = wc := ⟨_, rfl⟩
    have RX := Lib.hid hR
    have XX := Lib.hid hX
    clear hR hX
    obtain ⟨rs, bd⟩ := f7
    simp only at HRES
    clear C1 C2 C3 C4 C5 C6 C7 R1
    cases bd with
    | true =>
      simp only [Bool.true_or] at HRES
      have q1 : wx.cell? ⟨b, 1, none⟩ = some (.bool true) := cell_of_heap RX.out.inf
      have q2 : wx.frozen? ⟨b, 1, none⟩ = false := free_of_heap RX.out.inf
      have q3 : wx.cell? ⟨gB, 1, none⟩ = some (.string ⟨t3.toArray⟩) := cell_of_heap XX.out.at_
      have q4 : wx.cell? ⟨gB, 2, none⟩ = some (.string ⟨t4.toArray⟩) := cell_of_heap XX.out.at_
      go_wp2_with fail
      clear q1 q2 q3 q4
      refine (done_any b ⟨rs, true⟩ _ (RX.out.flag true).inf).mono ?_
      rintro e w' ⟨rfl, rfl⟩
      have HRX := Lib.hid (RX.out.flag true).rb
      have HXX := Lib.hid (XX.out.flag RX.out true).at_
      have HBX := Lib.hid (RX.out.flag true).below
      rcases doneF_cases ⟨rs, true⟩ with h0 | h0
      · have HR2 : Hid (res = some ⟨n2, t3, t4, t5, t6, n7⟩) := by show _ = _; rw [HRES.out]; exact if_pos h0
        rw [h0]
        clear h0
        go_wp2_with (first
          | (refine wpList_load_row (by rfl) 52 _ (by rfl) gB (by rfl) 52 _ (0, 0) _ (by exact HXX.out) Tryz.underlying52 rfl (by kernel_rfl) ?_)
          | (refine wpList_store_row (by rfl) 52 _ _ (by rfl) w.heap.size _ (by rfl) (by rfl) 52 _ (by exact HRX.out) (by kernel_rfl) (by kernel_rfl) (by kernel_rfl) ?_))
        refine bodyPost_ret (results_cell_tmp rfl _ _ w.heap.size 52 _ _ rfl (setRow_heap _ _ _ _ _ _ HRX.out) Tryz.underlying52 rfl (by kernel_rfl)) rfl ?_
        rw [HR2.out]
        exact ⟨rfl, below_one_row _ _ _ _ _ HBX.out (Nat.le_refl _)⟩
      · have HR2 : Hid (res = none) := by show _ = _; rw [HRES.out]; exact if_neg (fun h => by rw [h0] at h; exact absurd h (by decide))
        rw [h0]
        clear h0
        go_wp2_with (refine wpList_store_row (by rfl) 52 _ _ (by rfl) w.heap.size _ (by rfl) (by rfl) 52 _ (by exact HRX.out) (by kernel_rfl) (by kernel_rfl) (by kernel_rfl) ?_)
        refine bodyPost_ret (results_cell_tmp rfl _ _ w.heap.size 52 _ _ rfl (setRow_heap _ _ _ _ _ _ HRX.out) Tryz.underlying52 rfl (by kernel_rfl)) rfl ?_
        rw [HR2.out]
        exact ⟨rfl, below_one_row _ _ _ _ _ HBX.out (Nat.le_refl _)⟩
    | false =>
      simp only [Bool.false_or] at HRES
      have q1 : wx.cell? ⟨b, 1, none⟩ = some (.bool false) := cell_of_heap RX.out.inf
      have q2 : wx.frozen? ⟨b, 1, none⟩ = false := free_of_heap RX.out.inf
      have q3 : wx.cell? ⟨gB, 1, none⟩ = some (.string ⟨t3.toArray⟩) := cell_of_heap XX.out.at_
      have q4 : wx.cell? ⟨gB, 2, none⟩ = some (.string ⟨t4.toArray⟩) := cell_of_heap XX.out.at_
      go_wp2_with fail
      clear q1 q2 q3 q4
      refine (CB.out _ (HG.out _ RX.out.below)).mono ?_
      rintro e w3 ⟨rfl, hb3⟩
      have R3 := Lib.hid (RX.out.later hb3)
      have X3 := Lib.hid (XX.out.later hb3)
      clear hb3 RX XX CB
      have q1 : w3.cell? ⟨b, 1, none⟩ = some (.bool false) := cell_of_heap R3.out.inf
      have q2 : w3.frozen? ⟨b, 1, none⟩ = false := free_of_heap R3.out.inf
      have q3 : w3.cell? ⟨gB, 1, none⟩ = some (.string ⟨t3.toArray⟩) := cell_of_heap X3.out.at_
      have q4 : w3.cell? ⟨gB, 2, none⟩ = some (.string ⟨t4.toArray⟩) := cell_of_heap X3.out.at_
      obtain ⟨vb, hvb⟩ : ∃ v, bucketB t3 = v := ⟨_, rfl⟩
      rw [hvb] at HRES ⊢
      clear hvb
      cases vb with
      | false =>
        simp only [Bool.not_false, Bool.true_or] at HRES
        go_wp2_with fail
        clear q1 q2 q3 q4
        refine (done_any b ⟨rs, true⟩ _ (R3.out.flag true).inf).mono ?_
        rintro e w' ⟨rfl, rfl⟩
        have HRX := Lib.hid (R3.out.flag true).rb
        have HXX := Lib.hid (X3.out.flag R3.out true).at_
        have HBX := Lib.hid (R3.out.flag true).below
        rcases doneF_cases ⟨rs, true⟩ with h0 | h0
        · have HR2 : Hid (res = some ⟨n2, t3, t4, t5, t6, n7⟩) := by show _ = _; rw [HRES.out]; exact if_pos h0
          rw [h0]
          clear h0
          go_wp2_with (first
            | (refine wpList_load_row (by rfl) 52 _ (by rfl) gB (by rfl) 52 _ (0, 0) _ (by exact HXX.out) Tryz.underlying52 rfl (by kernel_rfl) ?_)
            | (refine wpList_store_row (by rfl) 52 _ _ (by rfl) w.heap.size _ (by rfl) (by rfl) 52 _ (by exact HRX.out) (by kernel_rfl) (by kernel_rfl) (by kernel_rfl) ?_))
          refine bodyPost_ret (results_cell_tmp rfl _ _ w.heap.size 52 _ _ rfl (setRow_heap _ _ _ _ _ _ HRX.out) Tryz.underlying52 rfl (by kernel_rfl)) rfl ?_
          rw [HR2.out]
          exact ⟨rfl, below_one_row _ _ _ _ _ HBX.out (Nat.le_refl _)⟩
        · have HR2 : Hid (res = none) := by show _ = _; rw [HRES.out]; exact if_neg (fun h => by rw [h0] at h; exact absurd h (by decide))
          rw [h0]
          clear h0
          go_wp2_with (refine wpList_store_row (by rfl) 52 _ _ (by rfl) w.heap.size _ (by rfl) (by rfl) 52 _ (by exact HRX.out) (by kernel_rfl) (by kernel_rfl) (by kernel_rfl) ?_)
          refine bodyPost_ret (results_cell_tmp rfl _ _ w.heap.size 52 _ _ rfl (setRow_heap _ _ _ _ _ _ HRX.out) Tryz.underlying52 rfl (by kernel_rfl)) rfl ?_
          rw [HR2.out]
          exact ⟨rfl, below_one_row _ _ _ _ _ HBX.out (Nat.le_refl _)⟩
      | true =>
        simp only [Bool.not_true, Bool.false_or] at HRES
        cases t4 with
        | nil =>
          simp only [List.isEmpty_nil] at HRES
          go_wp2_with fail
          clear q1 q2 q3 q4
          refine (done_any b ⟨rs, true⟩ _ (R3.out.flag true).inf).mono ?_
          rintro e w' ⟨rfl, rfl⟩
          have HRX := Lib.hid (R3.out.flag true).rb
          have HXX := Lib.hid (X3.out.flag R3.out true).at_
          have HBX := Lib.hid (R3.out.flag true).below
          rcases doneF_cases ⟨rs, true⟩ with h0 | h0
          · have HR2 : Hid (res = some ⟨n2, t3, [], t5, t6, n7⟩) := by show _ = _; rw [HRES.out]; exact if_pos h0
            rw [h0]
            clear h0
            go_wp2_with (first
              | (refine wpList_load_row (by rfl) 52 _ (by rfl) gB (by rfl) 52 _ (0, 0) _ (by exact HXX.out) Tryz.underlying52 rfl (by kernel_rfl) ?_)
              | (refine wpList_store_row (by rfl) 52 _ _ (by rfl) w.heap.size _ (by rfl) (by rfl) 52 _ (by exact HRX.out) (by kernel_rfl) (by kernel_rfl) (by kernel_rfl) ?_))
            refine bodyPost_ret (results_cell_tmp rfl _ _ w.heap.size 52 _ _ rfl (setRow_heap _ _ _ _ _ _ HRX.out) Tryz.underlying52 rfl (by kernel_rfl)) rfl ?_
            rw [HR2.out]
            exact ⟨rfl, below_one_row _ _ _ _ _ HBX.out (Nat.le_refl _)⟩
          · have HR2 : Hid (res = none) := by show _ = _; rw [HRES.out]; exact if_neg (fun h => by rw [h0] at h; exact absurd h (by decide))
            rw [h0]
            clear h0
            go_wp2_with (refine wpList_store_row (by rfl) 52 _ _ (by rfl) w.heap.size _ (by rfl) (by rfl) 52 _ (by exact HRX.out) (by kernel_rfl) (by kernel_rfl) (by kernel_rfl) ?_)
            refine bodyPost_ret (results_cell_tmp rfl _ _ w.heap.size 52 _ _ rfl (setRow_heap _ _ _ _ _ _ HRX.out) Tryz.underlying52 rfl (by kernel_rfl)) rfl ?_
            rw [HR2.out]
            exact ⟨rfl, below_one_row _ _ _ _ _ HBX.out (Nat.le_refl _)⟩
        | cons c4 r4 =>
          simp only [List.isEmpty_cons] at HRES
          go_wp2_with fail
          clear q1 q2 q3 q4
          refine (done_any b ⟨rs, false⟩ _ (R3.out.flag false).inf).mono ?_
          rintro e w' ⟨rfl, rfl⟩
          have HRX := Lib.hid (R3.out.flag false).rb
          have HXX := Lib.hid (X3.out.flag R3.out false).at_
          have HBX := Lib.hid (R3.out.flag false).below
          rcases doneF_cases ⟨rs, false⟩ with h0 | h0
          · have HR2 : Hid (res = some ⟨n2, t3, c4 :: r4, t5, t6, n7⟩) := by show _ = _; rw [HRES.out]; exact if_pos h0
            rw [h0]
            clear h0
            go_wp2_with (first
              | (refine wpList_load_row (by rfl) 52 _ (by rfl) gB (by rfl) 52 _ (0, 0) _ (by exact HXX.out) Tryz.underlying52 rfl (by kernel_rfl) ?_)
              | (refine wpList_store_row (by rfl) 52 _ _ (by rfl) w.heap.size _ (by rfl) (by rfl) 52 _ (by exact HRX.out) (by kernel_rfl) (by kernel_rfl) (by kernel_rfl) ?_))
            refine bodyPost_ret (results_cell_tmp rfl _ _ w.heap.size 52 _ _ rfl (setRow_heap _ _ _ _ _ _ HRX.out) Tryz.underlying52 rfl (by kernel_rfl)) rfl ?_
            rw [HR2.out]
            exact ⟨rfl, below_one_row _ _ _ _ _ HBX.out (Nat.le_refl _)⟩
          · have HR2 : Hid (res = none) := by show _ = _; rw [HRES.out]; exact if_neg (fun h => by rw [h0] at h; exact absurd h (by decide))
            rw [h0]
            clear h0
            go_wp2_with (refine wpList_store_row (by rfl) 52 _ _ (by rfl) w.heap.size _ (by rfl) (by rfl) 52 _ (by exact HRX.out) (by kernel_rfl) (by kernel_rfl) (by kernel_rfl) ?_)
            refine bodyPost_ret (results_cell_tmp rfl _ _ w.heap.size 52 _ _ rfl (setRow_heap _ _ _ _ _ _ HRX.out) Tryz.underlying52 rfl (by kernel_rfl)) rfl ?_
            rw [HR2.out]
            exact ⟨rfl, below_one_row _ _ _ _ _ HBX.out (Nat.le_refl _)⟩

end Go.Proofs.YtajmkkjlhmeolaaGreatDoor
