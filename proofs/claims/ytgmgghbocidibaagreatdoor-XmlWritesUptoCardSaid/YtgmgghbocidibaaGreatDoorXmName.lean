/-
  xml's reader: name.
-/
import Derived.Test.YtgmgghbocidibaaGreatDoorXmRd
namespace Go.Proofs.YtgmgghbocidibaaGreatDoor
open Go.RowKit Go.Lib Go.PlainAid

/-- how name ends -/
def NameOut (b : Nat) (S : ByteArray) (pv : Value) (x : R (Bs × Bs)) (w : World) (e : Ending) (w' : World) : Prop :=
  Mine b w w' ∧ match x with
    | .ok y => e = .returned (.string ⟨y.1.toArray⟩) ∧ RdAt w' b S y.2 pv
    | .error y => e = .returned (.string ⟨#[]⟩) ∧ RdBad w' b S y.1 y.2 pv
theorem nameL_no {also : Bool} {c : UInt8} {r : Bs} (h : firstX c = false) : nameL also (c :: r) = .error (55, (c :: r).length) := by simp [nameL, h]
theorem nameL_yes {also : Bool} {c : UInt8} {r : Bs} (h : firstX c = true) : nameL also (c :: r) = (if 100 < ((c :: r).takeWhile (nameX also)).length then .error (55, (c :: r).length - 100) else .ok ((c :: r).takeWhile (nameX also), (c :: r).dropWhile (nameX also))) := by simp [nameL, h]

set_option maxHeartbeats 4000000 in
set_option maxRecDepth 100000 in
theorem rname_any {w : World} {b : Nat} {S : ByteArray} {r : Bs} {pv : Value} (h : RdAt w b S r pv) (also : Bool) (als : Bs) (hal : ∀ c : UInt8, decide (0 ≤ Lib.indexByte als c) = (also && c = 58)) :
    Calls Tryz.prog 58 #[.pointer (some ⟨b, 0, none⟩), .string ⟨als.toArray⟩] w (NameOut b S pv (nameL also r) w) := by
  obtain ⟨a0, ha0, hs, hd0, hh0⟩ := h
  have q0 : w.cell? ⟨b, 0, none⟩ = some (.string S) := cell_at hh0 rfl
  have q00 : w.cell? ⟨b, 1, none⟩ = some (.int .i64 (a0 : Int)) := cell_at hh0 rfl
  have hbS := get_bt S
  have HX0 := Lib.hid hh0
  have HD0 := Lib.hid hd0
  have HIB := Lib.hid (fun c W => Tryz.strings_IndexByte ⟨als.toArray⟩ c W)
  have HMO := Lib.hid (fun c W => xmore_any c W)
  have HFI := Lib.hid (fun c W => xfirst_any c W)
  have HAL := Lib.hid hal
  have HF0 := Lib.hid (rfail_at ha0 hs hd0 b pv 55)
  clear hh0 hd0 hal
  go_enter Tryz.func58, Tryz.ntmps58
  cases hr : r with
  | nil =>
    subst hr
    have hz := xt_nil HD0.out
    have hgz : (S.size : Int) ≤ (a0 : Int) := by omega
    go_wp2_with fail
    go_quiet (fail)
    go_wp2_with fail
    refine (HF0.out (w.drewN nq) HX0.out).mono ?_
    rintro e W ⟨rfl, h1, h2⟩
    go_wp2_with fail
    go_ret
    exact ⟨(mine_drewN _ (Chg.refl _ _)).trans h2, rfl, h1⟩
  | cons c0 r0 =>
    subst hr
    obtain ⟨hz1, hz2, hz3⟩ := xt_cons HD0.out
    have haz : (a0 : Int) < (S.size : Int) := by omega
    have HI0 : Hid (∀ W, Calls Tryz.prog 49 #[.int .u8 (bt S a0)] W fun e w' => e = .returned (.bool (firstX c0)) ∧ w' = W) := fun W => by rw [hz2]; exact HFI.out c0 W
    clear hz2 hz3
    obtain ⟨f0, hf0⟩ : ∃ f, firstX c0 = f := ⟨_, rfl⟩
    rw [hf0] at HI0
    cases f0 with
    | false =>
      have HE := Lib.hid (nameL_no (also := also) (r := r0) hf0)
      clear hf0
      go_wp2_with fail
      go_quiet ((go_at_call 49; exact Calls.quiet_of_same (HI0.out _)))
      go_wp2_with fail
      refine (HF0.out (w.drewN nq) HX0.out).mono ?_
      rintro e W ⟨rfl, h1, h2⟩
      go_wp2_with fail
      go_ret
      rw [HE.out]
      exact ⟨(mine_drewN _ (Chg.refl _ _)).trans h2, rfl, h1⟩
    | true =>
      have HE := Lib.hid (nameL_yes (also := also) (r := r0) hf0)
      clear hf0
      go_wp2_with fail
      go_quiet ((go_at_call 49; exact Calls.quiet_of_same (HI0.out _)))
      go_wp2_with fail
      generalize c0 :: r0 = r at *
      go_loopg [] S.size (fun gg wr => ∃ (a : Nat) (r' : Bs), a0 ≤ a ∧ a ≤ S.size ∧ S.size - a ≤ gg ∧ a - a0 ≤ 100 ∧ Hid (S.data.toList.drop a = r') ∧ Hid (wr.heap[b]? = some (.cells (rdC S a (.pointer none) pv) 60 (0, 0))) ∧ Hid (r.takeWhile (nameX also) = r.take (a - a0) ++ r'.takeWhile (nameX also) ∧ r.dropWhile (nameX also) = r'.dropWhile (nameX also)) ∧ Hid (Mine b w wr))
      case atStart => exact ⟨a0, r, Nat.le_refl _, ha0, by omega, by omega, HD0, HX0, ⟨by simp, rfl⟩, mine_drewN _ (Chg.refl _ _)⟩
      case round =>
        obtain ⟨a, r', h0a, ha, hg, h100, HD, HX, HW, HM⟩ := hrel
        have q0 : wr.cell? ⟨b, 0, none⟩ = some (.string S) := cell_at HX.out rfl
        have q1 : wr.cell? ⟨b, 1, none⟩ = some (.int .i64 (a : Int)) := cell_at HX.out rfl
        have f1 : wr.frozen? ⟨b, 1, none⟩ = false := free_of_heap HX.out
        have h0z : (a0 : Int) ≤ (a : Int) := by omega
        have hax : (a : Int) ≤ (S.size : Int) := by omega
        have hx : S.extract a0 a = ⟨(r.take (a - a0)).toArray⟩ := by
          have := xt_mid (n := a - a0) HD0.out
          rwa [show a0 + (a - a0) = a from by omega] at this
        obtain ⟨T, hT⟩ : ∃ T, r.take (a - a0) = T := ⟨_, rfl⟩
        have HTL : Hid (T.length = a - a0) := by show _ = _; rw [← hT, List.length_take, xt_len HD0.out]; omega
        rw [hT] at hx
        have HT := Lib.hid hT
        clear hT
        cases r' with
        | nil =>
          have hz := xt_nil HD.out
          have hgz : decide (a < S.size) = false := by rw [decide_eq_false_iff_not]; omega
          have HN : Hid (nameL also r = .ok (T, [])) := by
            show _ = _
            obtain ⟨h1, h2⟩ := HW.out
            rw [HE.out, h1, h2, HT.out, if_neg (by simp only [List.takeWhile_nil, List.append_nil]; rw [HTL.out]; omega)]
            simp
          go_wp2_with fail
          go_quiet (fail)
          go_wp2_with fail
          go_quiet (fail)
          go_wp2_with fail
          go_ret
          rw [HN.out]
          exact ⟨mine_drewN _ (mine_drewN _ HM.out), rfl, ⟨a, ha, hs, HD.out, HX.out⟩⟩
        | cons c r2 =>
          obtain ⟨hz1, hz2, hz3⟩ := xt_cons HD.out
          have haz : (a : Int) < (S.size : Int) := by omega
          have HI1 : Hid (∀ W, Calls Tryz.prog 52 #[.int .u8 (bt S a)] W fun e w' => e = .returned (.bool (moreX c)) ∧ w' = W) := fun W => by rw [hz2]; exact HMO.out c W
          have HI2 : Hid (∀ W, Calls Tryz.prog 28 #[.string ⟨als.toArray⟩, .int .u8 (bt S a)] W fun e w' => e = .returned (.int .i64 (Lib.indexByte als c)) ∧ w' = W) := fun W => by
            have := HIB.out (bt S a) W
            rw [hz2] at this ⊢
            rwa [show ((c.toNat : Int).toNat.toUInt8) = c from by simp] at this
          have HZ := Lib.hid hz3
          have hal := HAL.out c
          obtain ⟨ix, hix⟩ : ∃ ix, Lib.indexByte als c = ix := ⟨_, rfl⟩
          rw [hix] at hal HI2
          have HNX : Hid (nameX also c = (moreX c || (also && decide (c = 58)))) := rfl
          clear hz2 hz3 hix
          obtain ⟨m, hm⟩ : ∃ m, moreX c = m := ⟨_, rfl⟩
          rw [hm] at HI1 HNX
          obtain ⟨y, hy⟩ : ∃ y, (also && decide (c = 58)) = y := ⟨_, rfl⟩
          rw [hy] at hal HNX
          clear hm hy
          have more : ∀ (_ : nameX also c = true), (100 < (r.takeWhile (nameX also)).length ∨ a - a0 ≠ 100) ∧ r.takeWhile (nameX also) = r.take (a + 1 - a0) ++ r2.takeWhile (nameX also) ∧ r.dropWhile (nameX also) = r2.dropWhile (nameX also) := fun hc => by
            obtain ⟨h1, h2⟩ := HW.out
            have h3 : r.take (a + 1 - a0) = T ++ [c] := by
              rw [show a + 1 - a0 = (a - a0) + 1 from by omega, List.take_add_one, HT.out]
              congr 1
              have : r[a - a0]? = some c := by rw [← HD0.out, List.getElem?_drop, show a0 + (a - a0) = a + 0 from by omega, ← List.getElem?_drop, HD.out]; rfl
              rw [this]; rfl
            have h4 : r.takeWhile (nameX also) = T ++ c :: r2.takeWhile (nameX also) := by rw [h1, HT.out, List.takeWhile_cons, if_pos hc]
            refine ⟨?_, by rw [h4, h3]; simp, by rw [h2, List.dropWhile_cons, if_pos hc]⟩
            by_cases hq : a - a0 = 100
            · left; rw [h4, List.length_append, HTL.out, hq, List.length_cons]; omega
            · exact .inr hq
          have HMR := Lib.hid more
          have HF := Lib.hid (rfail_at ha hs HD.out b pv 55)
          clear more
          cases m with
          | true =>
            have HC : Hid (nameX also c = true) := by show _ = _; rw [HNX.out]; rfl
            by_cases hq : a - a0 = 100
            · have hqz : (a : Int) - (a0 : Int) = 100 := by omega
              have HN : Hid (nameL also r = .error (55, (c :: r2).length)) := by
                show _ = _
                obtain ⟨h1, -, -⟩ := HMR.out HC.out
                rcases h1 with h1 | h1
                · rw [HE.out, if_pos h1, xt_len HD.out, xt_len HD0.out]; congr 2; omega
                · exact absurd hq h1
              go_wp2_with fail
              go_quiet ((go_at_call 52; exact Calls.quiet_of_same (HI1.out _)))
              go_wp2_with fail
              refine (HF.out (wr.drewN nq) HX.out).mono ?_
              rintro e W ⟨rfl, h1, h2⟩
              go_wp2_with fail
              go_ret
              rw [HN.out]
              exact ⟨(mine_drewN _ HM.out).trans h2, rfl, h1⟩
            · have hqz : ((a : Int) - (a0 : Int) == 100) = false := by rw [beq_eq_false_iff_ne]; omega
              go_wp2_with fail
              go_quiet ((go_at_call 52; exact Calls.quiet_of_same (HI1.out _)))
              go_wp2_with fail
              go_roundg (S.size - (a + 1))
              case measure => omega
              case rel =>
                obtain ⟨-, h2, h3⟩ := HMR.out HC.out
                exact ⟨a + 1, r2, by omega, by omega, by omega, by omega, HZ, at_set (w := wr.drewN nq) HX.out (a + 1), ⟨h2, h3⟩, (mine_drewN _ HM.out).trans (mine_set _ _ _ _)⟩
          | false =>
            cases y with
            | true =>
              have HC : Hid (nameX also c = true) := by show _ = _; rw [HNX.out]; rfl
              by_cases hq : a - a0 = 100
              · have hqz : (a : Int) - (a0 : Int) = 100 := by omega
                have HN : Hid (nameL also r = .error (55, (c :: r2).length)) := by
                  show _ = _
                  obtain ⟨h1, -, -⟩ := HMR.out HC.out
                  rcases h1 with h1 | h1
                  · rw [HE.out, if_pos h1, xt_len HD.out, xt_len HD0.out]; congr 2; omega
                  · exact absurd hq h1
                go_wp2_with fail
                go_quiet (first | (go_at_call 52; exact Calls.quiet_of_same (HI1.out _)) | (go_at_call 28; exact Calls.quiet_of_same (HI2.out _)))
                go_wp2_with fail
                refine (HF.out (wr.drewN nq) HX.out).mono ?_
                rintro e W ⟨rfl, h1, h2⟩
                go_wp2_with fail
                go_ret
                rw [HN.out]
                exact ⟨(mine_drewN _ HM.out).trans h2, rfl, h1⟩
              · have hqz : ((a : Int) - (a0 : Int) == 100) = false := by rw [beq_eq_false_iff_ne]; omega
                go_wp2_with fail
                go_quiet (first | (go_at_call 52; exact Calls.quiet_of_same (HI1.out _)) | (go_at_call 28; exact Calls.quiet_of_same (HI2.out _)))
                go_wp2_with fail
                go_roundg (S.size - (a + 1))
                case measure => omega
                case rel =>
                  obtain ⟨-, h2, h3⟩ := HMR.out HC.out
                  exact ⟨a + 1, r2, by omega, by omega, by omega, by omega, HZ, at_set (w := wr.drewN nq) HX.out (a + 1), ⟨h2, h3⟩, (mine_drewN _ HM.out).trans (mine_set _ _ _ _)⟩
            | false =>
              have HC : Hid (nameX also c = false) := by show _ = _; rw [HNX.out]; rfl
              have HN : Hid (nameL also r = .ok (T, c :: r2)) := by
                show _ = _
                obtain ⟨h1, h2⟩ := HW.out
                rw [List.takeWhile_cons, if_neg (by rw [HC.out]; decide), List.append_nil, HT.out] at h1
                rw [List.dropWhile_cons, if_neg (by rw [HC.out]; decide)] at h2
                rw [HE.out, h1, h2, if_neg (by rw [HTL.out]; omega)]
              go_wp2_with fail
              go_quiet (first | (go_at_call 52; exact Calls.quiet_of_same (HI1.out _)) | (go_at_call 28; exact Calls.quiet_of_same (HI2.out _)))
              go_wp2_with fail
              go_quiet (fail)
              go_wp2_with fail
              go_ret
              rw [HN.out]
              exact ⟨mine_drewN _ (mine_drewN _ HM.out), rfl, ⟨a, ha, hs, HD.out, HX.out⟩⟩
end Go.Proofs.YtgmgghbocidibaaGreatDoor
