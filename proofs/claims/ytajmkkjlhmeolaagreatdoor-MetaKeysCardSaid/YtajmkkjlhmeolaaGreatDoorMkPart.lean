/-
  storehouseref19.PartKey.
-/
import Derived.Test.YtajmkkjlhmeolaaGreatDoorMkKeys
namespace Go.Proofs.YtajmkkjlhmeolaaGreatDoor
open Go.RowKit Go.Lib Go.PlainAid

theorem tendig_text : ∀ r : Nat, r < 10 → (⟨#[48, 49, 50, 51, 52, 53, 54, 55, 56, 57]⟩ : ByteArray).extract r (r + 1) = ⟨(itoa (r : Int)).toArray⟩ := by
  intro r hr
  rw [itoa1 r hr]
  have : r = 0 ∨ r = 1 ∨ r = 2 ∨ r = 3 ∨ r = 4 ∨ r = 5 ∨ r = 6 ∨ r = 7 ∨ r = 8 ∨ r = 9 := by omega
  rcases this with rfl | rfl | rfl | rfl | rfl | rfl | rfl | rfl | rfl | rfl <;> rfl

set_option maxHeartbeats 2000000 in
set_option maxRecDepth 100000 in
theorem rPartKey_any (n m : Int) (hn : IntOK n) (hm : IntOK m) (w : World) : Calls Tryz.prog 24 #[.int .i64 n, .int .i64 m] w fun e w' => e = .returned (.string ⟨(partKeyL n m).toArray⟩) ∧ ∃ q, w' = w.drewN q := by
  have HS := Lib.hid (rSeq_any n w)
  have HN : Hid (∀ W, Calls Tryz.prog 19 #[.int .i64 n] W fun e w' => e = .returned (.string ⟨(numText n).toArray⟩) ∧ ∃ q, w' = W.drewN q) := fun W => (rNumber_any n hn W).mono fun e w' h => ⟨h.1, 0, h.2.symm⟩
  obtain ⟨R, hR⟩ : ∃ R, Hid (partKeyL n m = R) := ⟨_, rfl⟩
  rw [hR.out]
  by_cases hr : 1 ≤ n ∧ n ≤ 9007199254740991
  · rw [decide_eq_true hr] at HS
    by_cases h1 : m < 1
    · have HF : Hid (R = []) := by show _ = _; rw [← hR.out]; unfold partKeyL; rw [if_neg (by omega)]
      clear hr HN
      go_enter Tryz.func24, Tryz.ntmps24
      go_wp2_with fail
      refine HS.out.mono ?_
      rintro e w1 ⟨rfl, rfl⟩
      go_wp2
      go_ret
      rw [HF.out]
      exact ⟨rfl, 0, rfl⟩
    · by_cases h20 : 20 < m
      · have HF : Hid (R = []) := by show _ = _; rw [← hR.out]; unfold partKeyL; rw [if_neg (by omega)]
        have h1' : 1 ≤ m := by omega
        clear hr HN
        go_enter Tryz.func24, Tryz.ntmps24
        go_wp2_with fail
        refine HS.out.mono ?_
        rintro e w1 ⟨rfl, rfl⟩
        go_wp2
        go_ret
        rw [HF.out]
        exact ⟨rfl, 0, rfl⟩
      · have HF : Hid (R = [112, 47] ++ numText n ++ [47] ++ itoa (m / 10) ++ itoa (m % 10)) := by
          show _ = _; rw [← hR.out]; unfold partKeyL; rw [if_pos ⟨hr, by omega, by omega⟩]
        obtain ⟨k, rfl⟩ := Int.eq_ofNat_of_zero_le (show 0 ≤ m by omega)
        have hl := (numText_in (n := n) ⟨by omega, hr.2⟩).1
        generalize numText n = t at HN hl HF
        have f1 : (k : Int).tdiv 10 = ((k / 10 : Nat) : Int) := by rw [Int.tdiv_eq_ediv_of_nonneg (by omega)]; omega
        have f2 : (k : Int).tmod 10 = ((k % 10 : Nat) : Int) := by rw [Int.tmod_eq_emod_of_nonneg (by omega)]; omega
        have e1 : (k : Int) / 10 = ((k / 10 : Nat) : Int) := by omega
        have e2 : (k : Int) % 10 = ((k % 10 : Nat) : Int) := by omega
        rw [e1, e2] at HF
        obtain ⟨a, ha⟩ : ∃ a : Nat, a = k / 10 := ⟨_, rfl⟩
        obtain ⟨b, hb⟩ : ∃ b : Nat, b = k % 10 := ⟨_, rfl⟩
        have ha10 : a < 10 := by omega
        have hb10 : b < 10 := by omega
        have h1' : (1 : Int) ≤ (k : Int) := by omega
        have h20' : (k : Int) ≤ 20 := by omega
        rw [← ha] at f1 HF
        rw [← hb] at f2 HF
        have ta := Lib.hid (tendig_text a ha10)
        have tb := Lib.hid (tendig_text b hb10)
        have w1 : IntKind.i64.wrap (a : Int) = (a : Int) := by go_arith
        have w2 : IntKind.i64.wrap (b : Int) = (b : Int) := by go_arith
        have w3 : IntKind.i64.wrap ((a : Int) + 1) = (a : Int) + 1 := by go_arith
        have w4 : IntKind.i64.wrap ((b : Int) + 1) = (b : Int) + 1 := by go_arith
        have g1 : (0 : Int) ≤ (a : Int) + 1 := by omega
        have g2 : ((a : Int) + 1).toNat = a + 1 := by omega
        have g3 : (0 : Int) ≤ (b : Int) + 1 := by omega
        have g4 : ((b : Int) + 1).toNat = b + 1 := by omega
        have g5 : (ByteArray.mk #[48, 49, 50, 51, 52, 53, 54, 55, 56, 57]).size = 10 := rfl
        have n1 : ¬ 9223372036854775807 < 2 + t.length := by omega
        have n2 : ¬ 9223372036854775807 < 2 + t.length + 1 := by omega
        have n3 : ¬ 9223372036854775807 < 2 + t.length + 1 + (min (a + 1) 10 - a) := by omega
        have n4 : ¬ 9223372036854775807 < 2 + t.length + 1 + (min (a + 1) 10 - a) + (min (b + 1) 10 - b) := by omega
        clear hr h1 h20 e1 e2 ha hb
        go_enter Tryz.func24, Tryz.ntmps24
        go_wp2_with fail
        refine HS.out.mono ?_
        rintro e w1 ⟨rfl, rfl⟩
        go_wp2
        go_quiet ((go_at_call 19; exact Calls.quiet_of (HN.out _)))
        go_wp2
        go_ret
        refine ⟨ret_str ?_, _, rfl⟩
        rw [HF.out, ta.out, tb.out]
        simp only [← str_app]
  · rw [decide_eq_false hr] at HS
    have HF : Hid (R = []) := by show _ = _; rw [← hR.out]; unfold partKeyL; rw [if_neg (fun h => hr h.1)]
    clear hr HN
    go_enter Tryz.func24, Tryz.ntmps24
    go_wp2_with fail
    refine HS.out.mono ?_
    rintro e w1 ⟨rfl, rfl⟩
    go_wp2
    go_ret
    rw [HF.out]
    exact ⟨rfl, 0, rfl⟩

end Go.Proofs.YtajmkkjlhmeolaaGreatDoor
