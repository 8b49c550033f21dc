/-
  The law WireReads: the walk. (Printed by wip/gen/wireads.py.)
-/
import Derived.Test.YtdilmefeofdkmaaGreatDoorWiPieces
import Derived.Test.YtdilmefeofdkmaaGreatDoorSm39
namespace Go.Proofs.YtdilmefeofdkmaaGreatDoor
open Go.RowKit

set_option maxHeartbeats 16000000 in
set_option maxRecDepth 100000 in
theorem reads_walk (pieces : List (List UInt8)) (v : Value) (w : World) (hG : Glob w) (hS : SlAt w 1 v (strRows pieces)) (hl : pieces.flatten.length ≤ 10000000) (hp : pieces.length ≤ 140737488351232) :
    Calls Tryz.prog 5 #[v] w fun e w' => e = .returned (.bool true) ∧ Below w.heap.size w w' := by
  have HG : Hid (∀ W, Below w.heap.size w W → Glob W) := fun W hW => hG.later hW
  have GBW := Lib.hid hG.big
  obtain ⟨a, c, rfl, hc⟩ := hS.at_str
  have HC := Lib.hid hc
  have HX := Lib.hid (ex_walk w hG)
  clear hG hS hc
  go_enter Tryz.func5, Tryz.ntmps5
  go_wp2_with fail
  refine HX.out.mono ?_
  rintro e w1 ⟨rfl, b1⟩
  have B1 := Lib.hid b1
  have HNW := Lib.hid (new_any w1 (HG.out w1 b1))
  clear b1 HX
  go_wp2_with fail
  refine HNW.out.mono ?_
  rintro e w2 ⟨rfl, r2, b2⟩
  obtain ⟨rd, hrd⟩ : ∃ x : Nat, w1.heap.size = x := ⟨_, rfl⟩
  have LR : Hid (w.heap.size ≤ rd) := by rw [← hrd]; exact B1.out.size
  rw [hrd] at r2 ⊢
  have B2 := Lib.hid (B1.out.trans (b2.mono B1.out.size))
  have R2 := Lib.hid r2
  have HNX := Lib.hid (rNew_any w2 (HG.out w2 B2.out))
  clear r2 b2 hrd B1 HNW
  go_wp2_with fail
  refine HNX.out.mono ?_
  rintro e w3 ⟨rfl, ⟨xo, xl, xf, xb, r3⟩, b3⟩
  obtain ⟨xr, hxr⟩ : ∃ x : Nat, w2.heap.size = x := ⟨_, rfl⟩
  have B3 := Lib.hid (B2.out.trans (b3.mono B2.out.size))
  have T3 : Hid (Two w w3 rd xr rsZ qsZ 0 (ownRd rd) (fun b => b = xr)) := by
    rw [hxr] at r3
    refine ⟨R2.out.later b3, ⟨_, _, _, _, r3.idle⟩, Sim.zero, rsZ_wf, (fun _ => ⟨rfl, rfl⟩), fun b h1 h2 => ?_, fun b hb => ?_, fun b hb => ?_, B3.out⟩
    · have h3 : b = rd := h1
      obtain ⟨_, _, _, _, k⟩ := R2.out
      have := k.lt
      omega
    · rw [show b = rd from hb]; exact LR.out
    · rw [hb, ← hxr]; exact B2.out.size
  rw [hxr]
  clear r3 b3 hxr R2 B2 HNX LR HG B3
  go_upto_region 6 with (fail)
  go_wp2
  go_loopg [6, 7, 8, 9, 10] pieces.length (fun gg s6 _ _ _ _ wr => ∃ (i : Nat) (ms : Own) (xs : Nat → Prop) (q : QS), i ≤ pieces.length ∧ pieces.length - i ≤ gg ∧ s6 = .int .i64 i ∧ Hid (Two w wr rd xr (rsZ.feed (pieces.take i).flatten).1 q (pieces.take i).flatten.length ms xs))
  case atStart => exact ⟨0, _, _, _, Nat.zero_le _, by omega, rfl, T3⟩
  case round =>
    obtain ⟨i, ms, xs, q, hin, hg, rfl, TX⟩ := hrel
    by_cases hlt : i < pieces.length
    · have hltz : (i : Int) < (pieces.length : Int) := by omega
      obtain ⟨p, hip⟩ : ∃ p, pieces[i]? = some p := ⟨_, List.getElem?_eq_getElem hlt⟩
      obtain ⟨g, off, rfl, k0⟩ := HC.out i p hip
      have htk : (pieces.take (i + 1)).flatten = (pieces.take i).flatten ++ p := by rw [List.take_add_one, hip]; simp
      have hle : (pieces.take (i + 1)).flatten.length ≤ 10000000 := by
        have h1 : (pieces.take (i + 1)).flatten.length ≤ pieces.flatten.length := by
          conv => rhs; rw [← List.take_append_drop (i + 1) pieces]
          rw [List.flatten_append, List.length_append]
          omega
        omega
      rw [htk, List.length_append] at hle
      have HTK : Hid ((rsZ.feed (pieces.take (i + 1)).flatten).1 = ((rsZ.feed (pieces.take i).flatten).1.feed p).1) := by show _ = _; rw [htk, feed_append]
      have HTL : Hid ((pieces.take (i + 1)).flatten.length = (pieces.take i).flatten.length + p.length) := by show _ = _; rw [htk, List.length_append]
      generalize (pieces.take i).flatten.length = N at *
      generalize (rsZ.feed (pieces.take i).flatten).1 = s at *
      have K0 := Lib.hid k0
      have e0 := cell_later TX.out.bel K0.out
      have HFE := Lib.hid (feed_any p TX.out.rdr TX.out.wf (by omega))
      clear htk hip k0
      go_wp2_with fail
      refine HFE.out.mono ?_
      rintro e w5 ⟨v5, ms5, K5, rfl, r5, m5, q5, k5, _⟩
      obtain ⟨a5, c5, rfl⟩ := q5.form
      have R5 := Lib.hid r5
      have M5 := Lib.hid m5
      have Q5 := Lib.hid q5
      have K5H := Lib.hid k5
      clear r5 m5 q5 k5 HFE e0
      obtain ⟨v0, vl, vf, vb, hx⟩ := TX.out.ref
      have B5 := Lib.hid (TX.out.bel.trans (M5.out.below TX.out.bel.size TX.out.msl))
      have HXF := Lib.hid (rFeed_any p (hx.kept M5.out.chg (fun b hb => Nat.le_trans GBW.out (TX.out.msl b hb)) (fun b hb hm => TX.out.apart b hm hb)) TX.out.sim TX.out.wf (by omega))
      have e5 := cell_later B5.out K0.out
      clear hx
      go_wp2_with fail
      refine HXF.out.mono ?_
      rintro e w6 ⟨x0, yl, yf, yb, xs6, rfl, x6, m6⟩
      have F6 := Lib.hid (TX.out.fed GBW.out R5.out M5.out Q5.out K5H.out x6 m6)
      obtain ⟨KX, qx⟩ := x6.reqs
      rw [(sim_feed p TX.out.sim TX.out.wf).2] at qx
      obtain ⟨a6, c6, rfl⟩ := qx.form
      have QX := Lib.hid qx
      have X6 := Lib.hid x6
      clear x6 m6 qx e5 HXF R5 M5 Q5 K5H B5
      have WFX := Lib.hid F6.out.1.wf
      have HBX := Lib.hid F6.out.1.hb
      have SIMX := Lib.hid F6.out.1.sim
      have T6 := Lib.hid F6.out.1
      have QP := Lib.hid F6.out.2.1
      have KM := Lib.hid F6.out.2.2
      have QFL : Hid (∀ q ∈ (s.feed p).2, q.fields.length ≤ 50) := fun q hq => feed_flds p s N TX.out.wf q hq
      have QLN := Lib.hid (feed_len p s)
      clear F6 TX K0
      generalize (q.feed p).1 = q2 at *
      generalize s.feed p = r at *
      obtain ⟨s2, qs⟩ := r
      simp only at HTK WFX HBX SIMX T6 QP KM QFL QLN X6 QX ⊢
      have hql := QLN.out
      have hN : N + p.length ≤ 10000000 := hle
      have HFT : Hid (∀ W, Below w6.heap.size w6 W → Calls Tryz.prog 15 #[.pointer (some ⟨rd, 0, none⟩)] W fun e w' => e = .returned (.int .i64 s2.fault) ∧ Below W.heap.size W w') := fun W hW => (fault_any (T6.out.rdr.later hW)).mono (by rintro e w' ⟨rfl, rfl⟩; exact ⟨rfl, Below.refl _ _⟩)
      have HDN : Hid (∀ W, Below w6.heap.size w6 W → Calls Tryz.prog 14 #[.pointer (some ⟨rd, 0, none⟩)] W fun e w' => e = .returned (.bool s2.done) ∧ Below W.heap.size W w') := fun W hW => (done_any (T6.out.rdr.later hW)).mono (by rintro e w' ⟨rfl, rfl⟩; exact ⟨rfl, Below.refl _ _⟩)
      have HHP : Hid (∀ W, Below w6.heap.size w6 W → Calls Tryz.prog 17 #[.pointer (some ⟨rd, 0, none⟩)] W fun e w' => e = .returned (.int .i64 s2.held) ∧ Below W.heap.size W w') := fun W hW => (held_any (T6.out.rdr.later hW) WFX.out (by omega)).mono (by rintro e w' ⟨rfl, n, rfl⟩; exact ⟨rfl, belowDrewN (Below.refl _ _) n⟩)
      have HHX : Hid (∀ W, Below w6.heap.size w6 W → Calls Tryz.prog 20 #[.pointer (some ⟨xr, 0, none⟩)] W fun e w' => e = .returned (.int .i64 s2.held) ∧ Below W.heap.size W w') := fun W hW => by
        rw [← SIMX.out.held]
        refine (rHeld_any ⟨_, _, _, _, X6.out.later hW⟩ fun hd => ?_).mono (by rintro e w' ⟨rfl, n, rfl⟩; exact ⟨rfl, belowDrewN (Below.refl _ _) n⟩)
        have sl := SIMX.out.live (by rw [← SIMX.out.done]; exact hd)
        have h1 := WFX.out.h0; have h2 := WFX.out.h1; have h3 := WFX.out.line; have h4 := WFX.out.body
        rw [sl.head, sl.line, sl.body]
        exact ⟨h1, by omega, by omega, by omega⟩
      have X13 : Hid (w6.cell? ⟨xr, 13, none⟩ = some (.int .i64 s2.fault)) := by show _ = _; rw [← SIMX.out.fault]; exact cell_of_heap X6.out.box
      have X14 : Hid (w6.cell? ⟨xr, 14, none⟩ = some (.bool s2.done)) := by show _ = _; rw [← SIMX.out.done]; exact cell_of_heap X6.out.box
      have HLE := held_le HBX.out WFX.out
      have HLN : Hid (∀ W, Below w6.heap.size w6 W → Two w W rd xr s2 q2 (N + p.length) ms5 xs6) := fun W hW => T6.out.later hW
      generalize s2.fault = ft at *
      generalize s2.held = hd at *
      generalize s2.done = dn at *
      have n1 : (ft != ft) = false := by simp
      have n2 : (hd != hd) = false := by simp
      have n3 : ((qs.length : Int) != (qs.length : Int)) = false := by simp
      have n4 : (ft == ft) = true := by simp
      have n5 : (hd == hd) = true := by simp
      have n6 : ((qs.length : Int) == (qs.length : Int)) = true := by simp
      have n7 : (dn != dn) = false := by simp
      have n8 : (dn == dn) = true := by simp
      have n9 : ¬ 16200 < hd := by omega
      have n10 : decide (16200 < hd) = false := by simp; omega
      clear WFX HBX SIMX X6 hql HLE
      go_upto_region 11 with (fail)
      go_cut [72] (fun sx wx => sx = .bool false ∧ Hid (Below w6.heap.size w6 wx))
      case first =>
        refine wp_region_held_drew (S := (fun W : World => Below w6.heap.size w6 W)) (by kernel_rfl) (Below.drew (Below.refl _ _)) (fun hS0 => ?_)
        refine wpAnyH_take (i := 0) (oi := { dst := some 38, op := _, type := _, pos := _, after := _, guard := _ }) (v := ?_) rfl (by kernel_rfl) (by kernel_rfl) (by kernel_rfl) (fun _ _ _ h => h) (Or.inl ⟨by kernel_rfl, ?_⟩) (by assumption) ?_
        rotate_left
        · (intro w hSw; (try dsimp only at hSw); go_simp); all_goals (with_reducible rfl)
        try simp only [Act.put, List.setIfInBounds_toArray, List.set_cons_zero, List.set_cons_succ]
        refine wpAnyH_take (i := 1) (oi := { dst := some 39, op := _, type := _, pos := _, after := _, guard := _ }) (v := ?_) rfl (by kernel_rfl) (by kernel_rfl) (by kernel_rfl) (fun _ _ _ h => h) (Or.inl ⟨by kernel_rfl, ?_⟩) (by assumption) ?_
        rotate_left
        · (intro w hSw; (try dsimp only at hSw); go_simp); all_goals (with_reducible rfl)
        try simp only [Act.put, List.setIfInBounds_toArray, List.set_cons_zero, List.set_cons_succ]
        refine wpAnyH_take (i := 2) (oi := { dst := some 40, op := _, type := _, pos := _, after := _, guard := _ }) (v := ?_) rfl (by kernel_rfl) (by kernel_rfl) (by kernel_rfl) (fun _ _ _ h => h) (Or.inl ⟨by kernel_rfl, ?_⟩) (by assumption) ?_
        rotate_left
        · (intro w hSw; (try dsimp only at hSw); go_simp); all_goals (with_reducible rfl)
        try simp only [Act.put, List.setIfInBounds_toArray, List.set_cons_zero, List.set_cons_succ]
        refine wpAnyH_take (i := 3) (oi := { dst := some 41, op := _, type := _, pos := _, after := _, guard := _ }) (v := ?_) rfl (by kernel_rfl) (by kernel_rfl) (by kernel_rfl) (fun _ _ _ h => h) (Or.inl ⟨by kernel_rfl, ?_⟩) (by assumption) ?_
        rotate_left
        · (intro w hSw; (try dsimp only at hSw); go_simp); all_goals (with_reducible rfl)
        try simp only [Act.put, List.setIfInBounds_toArray, List.set_cons_zero, List.set_cons_succ]
        refine wpAnyH_take (i := 4) (oi := { dst := some 42, op := _, type := _, pos := _, after := _, guard := _ }) (v := ?_) rfl (by kernel_rfl) (by kernel_rfl) (by kernel_rfl) (fun _ _ _ h => h) (Or.inl ⟨by kernel_rfl, ?_⟩) (by assumption) ?_
        rotate_left
        · (intro w hSw; (try dsimp only at hSw); go_simp); all_goals (with_reducible rfl)
        try simp only [Act.put, List.setIfInBounds_toArray, List.set_cons_zero, List.set_cons_succ]
        refine wpAnyH_take (i := 5) (oi := { dst := some 43, op := _, type := _, pos := _, after := _, guard := _ }) (v := ?_) rfl (by kernel_rfl) (by kernel_rfl) (by kernel_rfl) (fun _ _ _ h => h) (Or.inl ⟨by kernel_rfl, ?_⟩) (by assumption) ?_
        rotate_left
        · (intro w hSw; (try dsimp only at hSw); go_simp); all_goals (with_reducible rfl)
        try simp only [Act.put, List.setIfInBounds_toArray, List.set_cons_zero, List.set_cons_succ]
        refine wpAnyH_take (i := 6) (oi := { dst := some 44, op := _, type := _, pos := _, after := _, guard := _ }) (v := ?_) rfl (by kernel_rfl) (by kernel_rfl) (by kernel_rfl) (fun _ _ _ h => h) (Or.inl ⟨by kernel_rfl, ?_⟩) (by assumption) ?_
        rotate_left
        · (intro w hSw; (try dsimp only at hSw); go_simp); all_goals (with_reducible rfl)
        try simp only [Act.put, List.setIfInBounds_toArray, List.set_cons_zero, List.set_cons_succ]
        refine wpAnyH_take (i := 8) (oi := { dst := some 46, op := _, type := _, pos := _, after := _, guard := _ }) (v := ?_) rfl (by kernel_rfl) (by kernel_rfl) (by kernel_rfl) (fun _ _ _ h => h) (Or.inl ⟨by kernel_rfl, ?_⟩) (by assumption) ?_
        rotate_left
        · (intro w hSw; (try dsimp only at hSw); go_simp); all_goals (with_reducible rfl)
        try simp only [Act.put, List.setIfInBounds_toArray, List.set_cons_zero, List.set_cons_succ]
        refine wpAnyH_take (i := 9) (oi := { dst := some 47, op := _, type := _, pos := _, after := _, guard := _ }) (v := ?_) rfl (by kernel_rfl) (by kernel_rfl) (by kernel_rfl) (fun _ _ _ h => h) (Or.inl ⟨by kernel_rfl, ?_⟩) (by assumption) ?_
        rotate_left
        · (intro w hSw; (try dsimp only at hSw); go_simp); all_goals (with_reducible rfl)
        try simp only [Act.put, List.setIfInBounds_toArray, List.set_cons_zero, List.set_cons_succ]
        refine wpAnyH_take (i := 10) (oi := { dst := some 48, op := _, type := _, pos := _, after := _, guard := _ }) (v := ?_) rfl (by kernel_rfl) (by kernel_rfl) (by kernel_rfl) (fun _ _ _ h => h) (Or.inl ⟨by kernel_rfl, ?_⟩) (by assumption) ?_
        rotate_left
        · (intro w hSw; (try dsimp only at hSw); go_simp); all_goals (with_reducible rfl)
        try simp only [Act.put, List.setIfInBounds_toArray, List.set_cons_zero, List.set_cons_succ]
        refine wpAnyH_take (i := 11) (oi := { dst := some 49, op := _, type := _, pos := _, after := _, guard := _ }) (v := ?_) rfl (by kernel_rfl) (by kernel_rfl) (by kernel_rfl) (fun _ _ _ h => h) (Or.inl ⟨by kernel_rfl, ?_⟩) (by assumption) ?_
        rotate_left
        · (intro w hSw; (try dsimp only at hSw); (have hx13 := cell_later hSw X13.out); (have hx14 := cell_later hSw X14.out); go_simp); all_goals (with_reducible rfl)
        try simp only [Act.put, List.setIfInBounds_toArray, List.set_cons_zero, List.set_cons_succ]
        refine wpAnyH_ready (rs := [7]) (by kernel_rfl) (by simp) ?_
        refine (AllReadyH.cons (o := { dst := some 45, op := _, type := _, pos := _, after := _, guard := _ }) rfl (fun K hK => ?_) AllReadyH.nil)
        rw [if_pos (by kernel_rfl)]
        refine wp_call_go Tryz.func15 (by kernel_rfl) (by kernel_rfl) (by rfl) (HFT.out _ hS0) (by rfl) ?_
        rintro e w' ⟨rfl, hb⟩
        refine ⟨_, rfl, ?_⟩
        refine hK.out _ w' (hS0.trans (hb.mono hS0.size)) (fun hS7 => ?_)
        clear hK K
        try simp only [Act.put, List.setIfInBounds_toArray, List.set_cons_zero, List.set_cons_succ]
        refine wpAnyH_take (i := 12) (oi := { dst := some 50, op := _, type := _, pos := _, after := _, guard := _ }) (v := ?_) rfl (by kernel_rfl) (by kernel_rfl) (by kernel_rfl) (fun _ _ _ h => h) (Or.inl ⟨by kernel_rfl, ?_⟩) (by assumption) ?_
        rotate_left
        · (intro w hSw; (try dsimp only at hSw); go_simp); all_goals (with_reducible rfl)
        try simp only [Act.put, List.setIfInBounds_toArray, List.set_cons_zero, List.set_cons_succ]
        refine wpAnyH_take (i := 13) (oi := { dst := some 51, op := _, type := _, pos := _, after := _, guard := _ }) (v := ?_) rfl (by kernel_rfl) (by kernel_rfl) (by kernel_rfl) (fun _ _ _ h => h) (Or.inl ⟨by kernel_rfl, ?_⟩) (by assumption) ?_
        rotate_left
        · (intro w hSw; (try dsimp only at hSw); go_simp); all_goals (with_reducible rfl)
        try simp only [Act.put, List.setIfInBounds_toArray, List.set_cons_zero, List.set_cons_succ]
        refine wpAnyH_take (i := 14) (oi := { dst := some 52, op := _, type := _, pos := _, after := _, guard := _ }) (v := ?_) rfl (by kernel_rfl) (by kernel_rfl) (by kernel_rfl) (fun _ _ _ h => h) (Or.inl ⟨by kernel_rfl, ?_⟩) (by assumption) ?_
        rotate_left
        · (intro w hSw; (try dsimp only at hSw); go_simp); all_goals (with_reducible rfl)
        try simp only [Act.put, List.setIfInBounds_toArray, List.set_cons_zero, List.set_cons_succ]
        refine wpAnyH_take (i := 15) (oi := { dst := some 53, op := _, type := _, pos := _, after := _, guard := _ }) (v := ?_) rfl (by kernel_rfl) (by kernel_rfl) (by kernel_rfl) (fun _ _ _ h => h) (Or.inl ⟨by kernel_rfl, ?_⟩) (by assumption) ?_
        rotate_left
        · (intro w hSw; (try dsimp only at hSw); go_simp); all_goals (with_reducible rfl)
        try simp only [Act.put, List.setIfInBounds_toArray, List.set_cons_zero, List.set_cons_succ]
        refine wpAnyH_take (i := 17) (oi := { dst := some 55, op := _, type := _, pos := _, after := _, guard := _ }) (v := ?_) rfl (by kernel_rfl) (by kernel_rfl) (by kernel_rfl) (fun _ _ _ h => h) (Or.inl ⟨by kernel_rfl, ?_⟩) (by assumption) ?_
        rotate_left
        · (intro w hSw; (try dsimp only at hSw); go_simp); all_goals (with_reducible rfl)
        try simp only [Act.put, List.setIfInBounds_toArray, List.set_cons_zero, List.set_cons_succ]
        refine wpAnyH_take (i := 18) (oi := { dst := some 56, op := _, type := _, pos := _, after := _, guard := _ }) (v := ?_) rfl (by kernel_rfl) (by kernel_rfl) (by kernel_rfl) (fun _ _ _ h => h) (Or.inl ⟨by kernel_rfl, ?_⟩) (by assumption) ?_
        rotate_left
        · (intro w hSw; (try dsimp only at hSw); go_simp); all_goals (with_reducible rfl)
        try simp only [Act.put, List.setIfInBounds_toArray, List.set_cons_zero, List.set_cons_succ]
        refine wpAnyH_take (i := 19) (oi := { dst := some 57, op := _, type := _, pos := _, after := _, guard := _ }) (v := ?_) rfl (by kernel_rfl) (by kernel_rfl) (by kernel_rfl) (fun _ _ _ h => h) (Or.inl ⟨by kernel_rfl, ?_⟩) (by assumption) ?_
        rotate_left
        · (intro w hSw; (try dsimp only at hSw); go_simp); all_goals (with_reducible rfl)
        try simp only [Act.put, List.setIfInBounds_toArray, List.set_cons_zero, List.set_cons_succ]
        refine wpAnyH_take (i := 20) (oi := { dst := some 58, op := _, type := _, pos := _, after := _, guard := _ }) (v := ?_) rfl (by kernel_rfl) (by kernel_rfl) (by kernel_rfl) (fun _ _ _ h => h) (Or.inl ⟨by kernel_rfl, ?_⟩) (by assumption) ?_
        rotate_left
        · (intro w hSw; (try dsimp only at hSw); (have hx13 := cell_later hSw X13.out); (have hx14 := cell_later hSw X14.out); go_simp); all_goals (with_reducible rfl)
        try simp only [Act.put, List.setIfInBounds_toArray, List.set_cons_zero, List.set_cons_succ]
        refine wpAnyH_ready (rs := [16]) (by kernel_rfl) (by simp) ?_
        refine (AllReadyH.cons (o := { dst := some 54, op := _, type := _, pos := _, after := _, guard := _ }) rfl (fun K hK => ?_) AllReadyH.nil)
        rw [if_pos (by kernel_rfl)]
        refine wp_call_go Tryz.func14 (by kernel_rfl) (by kernel_rfl) (by rfl) (HDN.out _ hS7) (by rfl) ?_
        rintro e w' ⟨rfl, hb⟩
        refine ⟨_, rfl, ?_⟩
        refine hK.out _ w' (hS7.trans (hb.mono hS7.size)) (fun hS16 => ?_)
        clear hK K
        try simp only [Act.put, List.setIfInBounds_toArray, List.set_cons_zero, List.set_cons_succ]
        refine wpAnyH_take (i := 21) (oi := { dst := some 59, op := _, type := _, pos := _, after := _, guard := _ }) (v := ?_) rfl (by kernel_rfl) (by kernel_rfl) (by kernel_rfl) (fun _ _ _ h => h) (Or.inl ⟨by kernel_rfl, ?_⟩) (by assumption) ?_
        rotate_left
        · (intro w hSw; (try dsimp only at hSw); go_simp); all_goals (with_reducible rfl)
        try simp only [Act.put, List.setIfInBounds_toArray, List.set_cons_zero, List.set_cons_succ]
        refine wpAnyH_take (i := 22) (oi := { dst := some 60, op := _, type := _, pos := _, after := _, guard := _ }) (v := ?_) rfl (by kernel_rfl) (by kernel_rfl) (by kernel_rfl) (fun _ _ _ h => h) (Or.inl ⟨by kernel_rfl, ?_⟩) (by assumption) ?_
        rotate_left
        · (intro w hSw; (try dsimp only at hSw); go_simp); all_goals (with_reducible rfl)
        try simp only [Act.put, List.setIfInBounds_toArray, List.set_cons_zero, List.set_cons_succ]
        refine wpAnyH_take (i := 23) (oi := { dst := some 61, op := _, type := _, pos := _, after := _, guard := _ }) (v := ?_) rfl (by kernel_rfl) (by kernel_rfl) (by kernel_rfl) (fun _ _ _ h => h) (Or.inl ⟨by kernel_rfl, ?_⟩) (by assumption) ?_
        rotate_left
        · (intro w hSw; (try dsimp only at hSw); go_simp); all_goals (with_reducible rfl)
        try simp only [Act.put, List.setIfInBounds_toArray, List.set_cons_zero, List.set_cons_succ]
        refine wpAnyH_take (i := 24) (oi := { dst := some 62, op := _, type := _, pos := _, after := _, guard := _ }) (v := ?_) rfl (by kernel_rfl) (by kernel_rfl) (by kernel_rfl) (fun _ _ _ h => h) (Or.inl ⟨by kernel_rfl, ?_⟩) (by assumption) ?_
        rotate_left
        · (intro w hSw; (try dsimp only at hSw); go_simp); all_goals (with_reducible rfl)
        try simp only [Act.put, List.setIfInBounds_toArray, List.set_cons_zero, List.set_cons_succ]
        refine wpAnyH_take (i := 26) (oi := { dst := some 64, op := _, type := _, pos := _, after := _, guard := _ }) (v := ?_) rfl (by kernel_rfl) (by kernel_rfl) (by kernel_rfl) (fun _ _ _ h => h) (Or.inl ⟨by kernel_rfl, ?_⟩) (by assumption) ?_
        rotate_left
        · (intro w hSw; (try dsimp only at hSw); go_simp); all_goals (with_reducible rfl)
        try simp only [Act.put, List.setIfInBounds_toArray, List.set_cons_zero, List.set_cons_succ]
        refine wpAnyH_ready (rs := [25]) (by kernel_rfl) (by simp) ?_
        refine (AllReadyH.cons (o := { dst := some 63, op := _, type := _, pos := _, after := _, guard := _ }) rfl (fun K hK => ?_) AllReadyH.nil)
        rw [if_pos (by kernel_rfl)]
        refine wp_call_go Tryz.func17 (by kernel_rfl) (by kernel_rfl) (by rfl) (HHP.out _ hS16) (by rfl) ?_
        rintro e w' ⟨rfl, hb⟩
        refine ⟨_, rfl, ?_⟩
        refine hK.out _ w' (hS16.trans (hb.mono hS16.size)) (fun hS25 => ?_)
        clear hK K
        try simp only [Act.put, List.setIfInBounds_toArray, List.set_cons_zero, List.set_cons_succ]
        refine wpAnyH_ready (rs := [27]) (by kernel_rfl) (by simp) ?_
        refine (AllReadyH.cons (o := { dst := some 65, op := _, type := _, pos := _, after := _, guard := _ }) rfl (fun K hK => ?_) AllReadyH.nil)
        rw [if_pos (by kernel_rfl)]
        refine wp_call_go Tryz.func20 (by kernel_rfl) (by kernel_rfl) (by rfl) (HHX.out _ hS25) (by rfl) ?_
        rintro e w' ⟨rfl, hb⟩
        refine ⟨_, rfl, ?_⟩
        refine hK.out _ w' (hS25.trans (hb.mono hS25.size)) (fun hS27 => ?_)
        clear hK K
        try simp only [Act.put, List.setIfInBounds_toArray, List.set_cons_zero, List.set_cons_succ]
        refine wpAnyH_take (i := 28) (oi := { dst := some 66, op := _, type := _, pos := _, after := _, guard := _ }) (v := ?_) rfl (by kernel_rfl) (by kernel_rfl) (by kernel_rfl) (fun _ _ _ h => h) (Or.inl ⟨by kernel_rfl, ?_⟩) (by assumption) ?_
        rotate_left
        · (intro w hSw; (try dsimp only at hSw); go_simp); all_goals (with_reducible rfl)
        try simp only [Act.put, List.setIfInBounds_toArray, List.set_cons_zero, List.set_cons_succ]
        refine wpAnyH_take (i := 29) (oi := { dst := some 67, op := _, type := _, pos := _, after := _, guard := _ }) (v := ?_) rfl (by kernel_rfl) (by kernel_rfl) (by kernel_rfl) (fun _ _ _ h => h) (Or.inl ⟨by kernel_rfl, ?_⟩) (by assumption) ?_
        rotate_left
        · (intro w hSw; (try dsimp only at hSw); go_simp); all_goals (with_reducible rfl)
        try simp only [Act.put, List.setIfInBounds_toArray, List.set_cons_zero, List.set_cons_succ]
        refine wpAnyH_take (i := 30) (oi := { dst := some 68, op := _, type := _, pos := _, after := _, guard := _ }) (v := ?_) rfl (by kernel_rfl) (by kernel_rfl) (by kernel_rfl) (fun _ _ _ h => h) (Or.inl ⟨by kernel_rfl, ?_⟩) (by assumption) ?_
        rotate_left
        · (intro w hSw; (try dsimp only at hSw); go_simp); all_goals (with_reducible rfl)
        try simp only [Act.put, List.setIfInBounds_toArray, List.set_cons_zero, List.set_cons_succ]
        refine wpAnyH_take (i := 31) (oi := { dst := some 69, op := _, type := _, pos := _, after := _, guard := _ }) (v := ?_) rfl (by kernel_rfl) (by kernel_rfl) (by kernel_rfl) (fun _ _ _ h => h) (Or.inl ⟨by kernel_rfl, ?_⟩) (by assumption) ?_
        rotate_left
        · (intro w hSw; (try dsimp only at hSw); go_simp); all_goals (with_reducible rfl)
        try simp only [Act.put, List.setIfInBounds_toArray, List.set_cons_zero, List.set_cons_succ]
        refine wpAnyH_ready (rs := [32]) (by kernel_rfl) (by simp) ?_
        refine (AllReadyH.cons (o := { dst := some 70, op := _, type := _, pos := _, after := _, guard := _ }) rfl (fun K hK => ?_) AllReadyH.nil)
        rw [if_pos (by kernel_rfl)]
        refine wp_call_go Tryz.func17 (by kernel_rfl) (by kernel_rfl) (by rfl) (HHP.out _ hS27) (by rfl) ?_
        rintro e w' ⟨rfl, hb⟩
        refine ⟨_, rfl, ?_⟩
        refine hK.out _ w' (hS27.trans (hb.mono hS27.size)) (fun hS32 => ?_)
        clear hK K
        try simp only [Act.put, List.setIfInBounds_toArray, List.set_cons_zero, List.set_cons_succ]
        refine wpAnyH_take (i := 33) (oi := { dst := some 71, op := _, type := _, pos := _, after := _, guard := _ }) (v := ?_) rfl (by kernel_rfl) (by kernel_rfl) (by kernel_rfl) (fun _ _ _ h => h) (Or.inl ⟨by kernel_rfl, ?_⟩) (by assumption) ?_
        rotate_left
        · (intro w hSw; (try dsimp only at hSw); go_simp); all_goals (with_reducible rfl)
        try simp only [Act.put, List.setIfInBounds_toArray, List.set_cons_zero, List.set_cons_succ]
        refine wpAnyH_take (i := 34) (oi := { dst := some 72, op := _, type := _, pos := _, after := _, guard := _ }) (v := ?_) rfl (by kernel_rfl) (by kernel_rfl) (by kernel_rfl) (fun _ _ _ h => h) (Or.inl ⟨by kernel_rfl, ?_⟩) (by assumption) ?_
        rotate_left
        · (intro w hSw; (try dsimp only at hSw); go_simp); all_goals (with_reducible rfl)
        try simp only [Act.put, List.setIfInBounds_toArray, List.set_cons_zero, List.set_cons_succ]
        refine wpAnyH_done (by kernel_rfl) ?_ _
        go_wp2
        go_meet
        exact ⟨rfl, hS32⟩
      case rest =>
      obtain ⟨rfl, BC⟩ := hcut
      have TC := Lib.hid (HLN.out _ BC.out)
      clear n1 n2 n3 n4 n5 n6 n7 n8 n9 n10 HFT HDN HHP HHX X13 X14
      obtain ⟨w7, hw7⟩ : ∃ wx : World, wx = wc := ⟨_, rfl⟩
      subst hw7
      go_upto_region 14 with (fail)
      go_wp2
      go_loopg [9, 10] qs.length (fun gg s9 _ wr => ∃ k : Nat, k ≤ qs.length ∧ qs.length - k ≤ gg ∧ s9 = .int .i64 k ∧ Hid (Below w6.heap.size w6 wr))
      case atStart => exact ⟨0, Nat.zero_le _, by omega, rfl, BC⟩
      case round =>
        obtain ⟨k, hkn, hgk, rfl, BR⟩ := hrel
        have hql := QLN.out
        by_cases hlk : k < qs.length
        · have hltz : (k : Int) < (qs.length : Int) := by omega
          obtain ⟨q, hiq⟩ : ∃ q, qs[k]? = some q := ⟨_, List.getElem?_eq_getElem hlk⟩
          have hqf := QFL.out q (List.mem_of_getElem? hiq)
          obtain ⟨ga, ca', vfa, hva, a0, a1, a2, a3, a4, a5, oa, _⟩ := QP.out.at hiq
          obtain ⟨gb, cb', vfb, hvb, b0, b1, b2, b3, b4, b5, ob, _⟩ := QX.out.at hiq
          injection hva with hva _ ea
          injection hvb with hvb _ eb
          subst hva hvb ea eb
          have PA := pairs_own oa (by omega)
          have PB := pairs_own ob (by omega)
          have HSM : Hid (∀ W, Below w6.heap.size w6 W → Calls Tryz.prog 12 #[reqAgg q vfa, reqAgg q vfb] W fun e w' => e = .returned (.bool true) ∧ Below W.heap.size W w') := fun W hW => by
            have := same_any q q vfa vfb W (PA.later hW) (PB.later hW)
            rwa [decide_eq_true rfl] at this
          have A0 := Lib.hid a0
          have A1 := Lib.hid a1
          have A2 := Lib.hid a2
          have A3 := Lib.hid a3
          have A4 := Lib.hid a4
          have A5 := Lib.hid a5
          have B0 := Lib.hid b0
          have B1 := Lib.hid b1
          have B2 := Lib.hid b2
          have B3 := Lib.hid b3
          have B4 := Lib.hid b4
          have B5 := Lib.hid b5
          clear oa ob PA PB hiq hlk
          clear a0 a1 a2 a3 a4 a5 b0 b1 b2 b3 b4 b5
          go_upto_region 16 with (fail)
          refine wp_region_held_drew (S := (fun W : World => Below w6.heap.size w6 W)) (by kernel_rfl) (Below.drew BR.out) (fun hS0 => ?_)
          refine wpAnyH_take (i := 0) (oi := { dst := some 79, op := _, type := _, pos := _, after := _, guard := _ }) (v := ?_) rfl (by kernel_rfl) (by kernel_rfl) (by kernel_rfl) (fun _ _ _ h => h) (Or.inl ⟨by kernel_rfl, ?_⟩) (by assumption) ?_
          rotate_left
          · (intro w hSw; (try dsimp only at hSw); go_simp); all_goals (with_reducible rfl)
          try simp only [Act.put, List.setIfInBounds_toArray, List.set_cons_zero, List.set_cons_succ]
          refine wpAnyH_take (i := 1) (oi := { dst := some 80, op := _, type := _, pos := _, after := _, guard := _ }) (v := ?_) rfl (by kernel_rfl) (by kernel_rfl) (by kernel_rfl) (fun _ _ _ h => h) (Or.inl ⟨by kernel_rfl, ?_⟩) (by assumption) ?_
          rotate_left
          · (intro w hSw; (try dsimp only at hSw); go_simp); all_goals (with_reducible rfl)
          try simp only [Act.put, List.setIfInBounds_toArray, List.set_cons_zero, List.set_cons_succ]
          refine wpAnyH_take (i := 2) (oi := { dst := some 81, op := _, type := _, pos := _, after := _, guard := _ }) (v := ?_) rfl (by kernel_rfl) (by kernel_rfl) (by kernel_rfl) (fun _ _ _ h => h) (Or.inl ⟨by kernel_rfl, ?_⟩) (by assumption) ?_
          rotate_left
          · (intro w hSw; (try dsimp only at hSw); go_simp); all_goals (with_reducible rfl)
          try simp only [Act.put, List.setIfInBounds_toArray, List.set_cons_zero, List.set_cons_succ]
          refine wpAnyH_take (i := 3) (oi := { dst := some 82, op := _, type := _, pos := _, after := _, guard := _ }) (v := ?_) rfl (by kernel_rfl) (by kernel_rfl) (by kernel_rfl) (fun _ _ _ h => h) (Or.inl ⟨by kernel_rfl, ?_⟩) (by assumption) ?_
          rotate_left
          · (intro w hSw; (try dsimp only at hSw); (have ha0 := cell_later hSw A0.out); (have ha1 := cell_later hSw A1.out); (have ha2 := cell_later hSw A2.out); (have ha3 := cell_later hSw A3.out); (have ha4 := cell_later hSw A4.out); (have ha5 := cell_later hSw A5.out); (have hb0 := cell_later hSw B0.out); (have hb1 := cell_later hSw B1.out); (have hb2 := cell_later hSw B2.out); (have hb3 := cell_later hSw B3.out); (have hb4 := cell_later hSw B4.out); (have hb5 := cell_later hSw B5.out); go_simp); all_goals (with_reducible rfl)
          try simp only [Act.put, List.setIfInBounds_toArray, List.set_cons_zero, List.set_cons_succ]
          refine wpAnyH_take (i := 4) (oi := { dst := some 83, op := _, type := _, pos := _, after := _, guard := _ }) (v := ?_) rfl (by kernel_rfl) (by kernel_rfl) (by kernel_rfl) (fun _ _ _ h => h) (Or.inl ⟨by kernel_rfl, ?_⟩) (by assumption) ?_
          rotate_left
          · (intro w hSw; (try dsimp only at hSw); go_simp); all_goals (with_reducible rfl)
          try simp only [Act.put, List.setIfInBounds_toArray, List.set_cons_zero, List.set_cons_succ]
          refine wpAnyH_take (i := 5) (oi := { dst := some 84, op := _, type := _, pos := _, after := _, guard := _ }) (v := ?_) rfl (by kernel_rfl) (by kernel_rfl) (by kernel_rfl) (fun _ _ _ h => h) (Or.inl ⟨by kernel_rfl, ?_⟩) (by assumption) ?_
          rotate_left
          · (intro w hSw; (try dsimp only at hSw); go_simp); all_goals (with_reducible rfl)
          try simp only [Act.put, List.setIfInBounds_toArray, List.set_cons_zero, List.set_cons_succ]
          refine wpAnyH_take (i := 6) (oi := { dst := some 85, op := _, type := _, pos := _, after := _, guard := _ }) (v := ?_) rfl (by kernel_rfl) (by kernel_rfl) (by kernel_rfl) (fun _ _ _ h => h) (Or.inl ⟨by kernel_rfl, ?_⟩) (by assumption) ?_
          rotate_left
          · (intro w hSw; (try dsimp only at hSw); go_simp); all_goals (with_reducible rfl)
          try simp only [Act.put, List.setIfInBounds_toArray, List.set_cons_zero, List.set_cons_succ]
          refine wpAnyH_take (i := 7) (oi := { dst := some 86, op := _, type := _, pos := _, after := _, guard := _ }) (v := ?_) rfl (by kernel_rfl) (by kernel_rfl) (by kernel_rfl) (fun _ _ _ h => h) (Or.inl ⟨by kernel_rfl, ?_⟩) (by assumption) ?_
          rotate_left
          · (intro w hSw; (try dsimp only at hSw); (have ha0 := cell_later hSw A0.out); (have ha1 := cell_later hSw A1.out); (have ha2 := cell_later hSw A2.out); (have ha3 := cell_later hSw A3.out); (have ha4 := cell_later hSw A4.out); (have ha5 := cell_later hSw A5.out); (have hb0 := cell_later hSw B0.out); (have hb1 := cell_later hSw B1.out); (have hb2 := cell_later hSw B2.out); (have hb3 := cell_later hSw B3.out); (have hb4 := cell_later hSw B4.out); (have hb5 := cell_later hSw B5.out); go_simp); all_goals (with_reducible rfl)
          try simp only [Act.put, List.setIfInBounds_toArray, List.set_cons_zero, List.set_cons_succ]
          refine wpAnyH_ready (rs := [8]) (by kernel_rfl) (by simp) ?_
          refine (AllReadyH.cons (o := { dst := some 87, op := _, type := _, pos := _, after := _, guard := _ }) rfl (fun K hK => ?_) AllReadyH.nil)
          rw [if_pos (by kernel_rfl)]
          refine wp_call_go Tryz.func12 (by kernel_rfl) (by kernel_rfl) (by rfl) (HSM.out _ hS0) (by rfl) ?_
          rintro e w' ⟨rfl, hb⟩
          refine ⟨_, rfl, ?_⟩
          refine hK.out _ w' (hS0.trans (hb.mono hS0.size)) (fun hSe => ?_)
          clear hK K
          try simp only [Act.put, List.setIfInBounds_toArray, List.set_cons_zero, List.set_cons_succ]
          refine wpAnyH_take (i := 9) (oi := { dst := some 10, op := _, type := _, pos := _, after := _, guard := _ }) (v := ?_) rfl (by kernel_rfl) (by kernel_rfl) (by kernel_rfl) (fun _ _ _ h => h) (Or.inl ⟨by kernel_rfl, ?_⟩) (by assumption) ?_
          rotate_left
          · (intro w hSw; (try dsimp only at hSw); go_simp); all_goals (with_reducible rfl)
          try simp only [Act.put, List.setIfInBounds_toArray, List.set_cons_zero, List.set_cons_succ]
          refine wpAnyH_done (by kernel_rfl) ?_ _
          have BY := Lib.hid hSe
          clear hSe
          go_wp2
          go_roundg (qs.length - (k + 1))
          case measure => omega
          case rel => exact ⟨k + 1, by omega, by omega, by go_num, BY.out⟩
        · have he : k = qs.length := by omega
          subst he
          have TR := Lib.hid (HLN.out _ BR.out)
          have HSP := Lib.hid (spoil_any (QP.out.later BR.out) (by omega) QFL.out)
          go_wp2_with fail
          refine HSP.out.mono ?_
          rintro e w9 ⟨rfl, hc9⟩
          have T9 := Lib.hid (TR.out.spoilt hc9 KM.out.1 KM.out.2.1 KM.out.2.2 GBW.out)
          clear hc9 HSP TR
          go_wp2
          go_roundg (pieces.length - (i + 1))
          case measure => omega
          case rel =>
            refine ⟨i + 1, ms5, xs6, q2, by omega, by omega, by go_num, ?_⟩
            show Two _ _ _ _ _ _ _ _ _
            rw [HTK.out, HTL.out]
            exact T9.out
    · have he : i = pieces.length := by omega
      subst he
      have BX := Lib.hid TX.out.bel
      go_wp2
      go_ret
      exact ⟨rfl, BX.out⟩
end Go.Proofs.YtdilmefeofdkmaaGreatDoor
