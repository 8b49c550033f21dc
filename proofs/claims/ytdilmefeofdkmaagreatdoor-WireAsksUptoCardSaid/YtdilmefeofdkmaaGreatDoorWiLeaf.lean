/-
  WIRE: what a byte is; all, isName.
-/
import Derived.Test.YtdilmefeofdkmaaGreatDoorSm2
import Derived.Shelf.GgClosure.Gives
namespace Go.Proofs.YtdilmefeofdkmaaGreatDoor
open Go.RowKit

theorem u8_le (a b : UInt8) : decide (a ≤ b) = decide ((a.toNat : Int) ≤ (b.toNat : Int)) := by
  congr 1; rw [UInt8.le_iff_toNat_le]; exact propext (by omega)
theorem u8_lt (a b : UInt8) : decide (a < b) = decide ((a.toNat : Int) < (b.toNat : Int)) := by
  congr 1; rw [UInt8.lt_iff_toNat_lt]; exact propext (by omega)
theorem u8_eq (a b : UInt8) : (a == b) = ((a.toNat : Int) == (b.toNat : Int)) := by
  rw [Bool.eq_iff_iff]; simp [← UInt8.toNat_inj]; omega
theorem bits_or32 (b : UInt8) : bits .or .u8 (b.toNat : Int) 32 = ((b ||| 32).toNat : Int) := by
  have h : ∀ n : Fin 256, bits .or .u8 ((n : Nat) : Int) 32 = ((UInt8.ofNat (n : Nat) ||| 32).toNat : Int) := by decide +kernel
  have := h ⟨b.toNat, b.toNat_lt⟩
  simpa using this
def encB (b : UInt8) : Value := .int .u8 (b.toNat : Int)

/-- a test of a byte, as a function value -/
def IsTest (k : Nat) (p : UInt8 → Bool) : Prop := (∀ args w, (callFunc k args).run Tryz.prog w = .ok (.enter k args) w) ∧ ∀ (b : UInt8) (w : World), Calls Tryz.prog k #[.int .u8 (b.toNat : Int)] w fun e w' => e = .returned (.bool (p b)) ∧ w' = w

theorem digB_int (b : UInt8) : digB b = (decide (48 ≤ (b.toNat : Int)) && decide ((b.toNat : Int) ≤ 57)) := by unfold digB; rw [u8_le, u8_le]; rfl
theorem capB_int (b : UInt8) : capB b = (decide (65 ≤ (b.toNat : Int)) && decide ((b.toNat : Int) ≤ 90)) := by unfold capB; rw [u8_le, u8_le]; rfl
theorem seenB_int (b : UInt8) : seenB b = (decide (32 < (b.toNat : Int)) && decide ((b.toNat : Int) ≤ 126)) := by unfold seenB; rw [u8_lt, u8_le]; rfl
theorem shownB_int (b : UInt8) : shownB b = ((decide (32 ≤ (b.toNat : Int)) && !((b.toNat : Int) == 127)) || (b.toNat : Int) == 9) := by unfold shownB; rw [u8_le, bne, u8_eq, u8_eq]; rfl

set_option maxHeartbeats 1000000 in
theorem digit_any (b : UInt8) (w : World) : Calls Tryz.prog 64 #[.int .u8 (b.toNat : Int)] w fun e w' => e = .returned (.bool (digB b)) ∧ w' = w := by
  rw [digB_int]
  have hb := b.toNat_lt
  generalize b.toNat = n at *
  by_cases h1 : 48 ≤ (n : Int)
  · rw [decide_eq_true h1]
    by_cases h2 : (n : Int) ≤ 57
    · rw [decide_eq_true h2]
      go_enter Tryz.func64, Tryz.ntmps64
      go_wp2
      go_ret
      exact ⟨rfl, rfl⟩
    · rw [decide_eq_false h2]
      have h3 : 57 < (n : Int) := by omega
      go_enter Tryz.func64, Tryz.ntmps64
      go_wp2
      go_ret
      exact ⟨rfl, rfl⟩
  · rw [decide_eq_false h1]
    have h3 : (n : Int) < 48 := by omega
    go_enter Tryz.func64, Tryz.ntmps64
    go_wp2
    go_ret
    exact ⟨rfl, rfl⟩
theorem digit_test : IsTest 64 digB := ⟨enters_of Tryz.func64 (by kernel_rfl) rfl, digit_any⟩
theorem lowB_int (b : UInt8) : lowB b = (decide (97 ≤ ((b ||| 32).toNat : Int)) && decide (((b ||| 32).toNat : Int) ≤ 122)) := by unfold lowB; rw [u8_le, u8_le]; rfl
theorem nameB_int (b : UInt8) : nameB b = ((((decide (97 ≤ ((b ||| 32).toNat : Int)) && decide (((b ||| 32).toNat : Int) ≤ 122)) || digB b) || (b.toNat : Int) == 45) || (b.toNat : Int) == 95) := by unfold nameB; rw [lowB_int, u8_eq, u8_eq]; rfl
theorem hexB_int (b : UInt8) : hexB b = (digB b || (decide (97 ≤ ((b ||| 32).toNat : Int)) && decide (((b ||| 32).toNat : Int) ≤ 102))) := by unfold hexB; rw [u8_le, u8_le]; rfl

set_option maxHeartbeats 1000000 in
set_option maxRecDepth 100000 in
theorem capital_any (b : UInt8) (w : World) : Calls Tryz.prog 96 #[.int .u8 (b.toNat : Int)] w fun e w' => e = .returned (.bool (capB b)) ∧ w' = w := by
  rw [capB_int]
  have hb := b.toNat_lt
  generalize b.toNat = n at *
  by_cases h2 : 65 ≤ (n : Int)
  · rw [decide_eq_true h2]
    by_cases h4 : (n : Int) ≤ 90
    · rw [decide_eq_true h4]
      go_enter Tryz.func96, Tryz.ntmps96
      go_wp2_with fail
      all_goals first
        | (go_ret; refine ⟨?_, rfl⟩; first | rfl | (simp; done) | (simp [*]; done))
        | (exfalso; simp_all; done)
    · rw [decide_eq_false h4]
      have g4 : 90 < (n : Int) := by omega
      go_enter Tryz.func96, Tryz.ntmps96
      go_wp2_with fail
      all_goals first
        | (go_ret; refine ⟨?_, rfl⟩; first | rfl | (simp; done) | (simp [*]; done))
        | (exfalso; simp_all; done)
  · rw [decide_eq_false h2]
    have g2 : (n : Int) < 65 := by omega
    go_enter Tryz.func96, Tryz.ntmps96
    go_wp2_with fail
    all_goals first
      | (go_ret; refine ⟨?_, rfl⟩; first | rfl | (simp; done) | (simp [*]; done))
      | (exfalso; simp_all; done)
theorem capital_test : IsTest 96 capB := ⟨enters_of Tryz.func96 (by kernel_rfl) rfl, capital_any⟩

set_option maxHeartbeats 1000000 in
set_option maxRecDepth 100000 in
theorem seen_any (b : UInt8) (w : World) : Calls Tryz.prog 97 #[.int .u8 (b.toNat : Int)] w fun e w' => e = .returned (.bool (seenB b)) ∧ w' = w := by
  rw [seenB_int]
  have hb := b.toNat_lt
  generalize b.toNat = n at *
  by_cases h2 : 32 < (n : Int)
  · rw [decide_eq_true h2]
    by_cases h4 : (n : Int) ≤ 126
    · rw [decide_eq_true h4]
      go_enter Tryz.func97, Tryz.ntmps97
      go_wp2_with fail
      all_goals first
        | (go_ret; refine ⟨?_, rfl⟩; first | rfl | (simp; done) | (simp [*]; done))
        | (exfalso; simp_all; done)
    · rw [decide_eq_false h4]
      have g4 : 126 < (n : Int) := by omega
      go_enter Tryz.func97, Tryz.ntmps97
      go_wp2_with fail
      all_goals first
        | (go_ret; refine ⟨?_, rfl⟩; first | rfl | (simp; done) | (simp [*]; done))
        | (exfalso; simp_all; done)
  · rw [decide_eq_false h2]
    have g2 : (n : Int) ≤ 32 := by omega
    go_enter Tryz.func97, Tryz.ntmps97
    go_wp2_with fail
    all_goals first
      | (go_ret; refine ⟨?_, rfl⟩; first | rfl | (simp; done) | (simp [*]; done))
      | (exfalso; simp_all; done)
theorem seen_test : IsTest 97 seenB := ⟨enters_of Tryz.func97 (by kernel_rfl) rfl, seen_any⟩

set_option maxHeartbeats 1000000 in
set_option maxRecDepth 100000 in
theorem shown_any (b : UInt8) (w : World) : Calls Tryz.prog 100 #[.int .u8 (b.toNat : Int)] w fun e w' => e = .returned (.bool (shownB b)) ∧ w' = w := by
  rw [shownB_int]
  have hb := b.toNat_lt
  generalize b.toNat = n at *
  by_cases h2 : 32 ≤ (n : Int)
  · rw [decide_eq_true h2]
    by_cases h4 : (n : Int) = 127
    · have e4 : ((n : Int) == 127) = true := by simpa using h4
      rw [e4]
      clear h4
      by_cases h6 : (n : Int) = 9
      · exfalso
        omega
      · have e6 : ((n : Int) == 9) = false := by simpa using h6
        rw [e6]
        go_enter Tryz.func100, Tryz.ntmps100
        go_wp2_with fail
        all_goals first
          | (go_ret; refine ⟨?_, rfl⟩; first | rfl | (simp; done) | (simp [*]; done))
          | (exfalso; simp_all; done)
    · have e4 : ((n : Int) == 127) = false := by simpa using h4
      rw [e4]
      go_enter Tryz.func100, Tryz.ntmps100
      go_wp2_with fail
      all_goals first
        | (go_ret; refine ⟨?_, rfl⟩; first | rfl | (simp; done) | (simp [*]; done))
        | (exfalso; simp_all; done)
  · rw [decide_eq_false h2]
    have g2 : (n : Int) < 32 := by omega
    by_cases h4 : (n : Int) = 9
    · have e4 : ((n : Int) == 9) = true := by simpa using h4
      rw [e4]
      clear h4
      go_enter Tryz.func100, Tryz.ntmps100
      go_wp2_with fail
      all_goals first
        | (go_ret; refine ⟨?_, rfl⟩; first | rfl | (simp; done) | (simp [*]; done))
        | (exfalso; simp_all; done)
    · have e4 : ((n : Int) == 9) = false := by simpa using h4
      rw [e4]
      go_enter Tryz.func100, Tryz.ntmps100
      go_wp2_with fail
      all_goals first
        | (go_ret; refine ⟨?_, rfl⟩; first | rfl | (simp; done) | (simp [*]; done))
        | (exfalso; simp_all; done)
theorem shown_test : IsTest 100 shownB := ⟨enters_of Tryz.func100 (by kernel_rfl) rfl, shown_any⟩

set_option maxHeartbeats 1000000 in
set_option maxRecDepth 100000 in
theorem nameChar_any (b : UInt8) (w : World) : Calls Tryz.prog 63 #[.int .u8 (b.toNat : Int)] w fun e w' => e = .returned (.bool (nameB b)) ∧ w' = w := by
  rw [nameB_int]
  have hb := b.toNat_lt
  have HD : Hid (∀ W, Calls Tryz.prog 64 #[.int .u8 (b.toNat : Int)] W fun e w' => e = .returned (.bool (digB b)) ∧ w' = W) := fun W => digit_any b W
  obtain ⟨dg, hdg⟩ : ∃ x, digB b = x := ⟨_, rfl⟩
  rw [hdg] at HD ⊢
  clear hdg
  have hlo := bits_or32 b
  have hlb := (b ||| 32).toNat_lt
  generalize (b ||| 32).toNat = lo at *
  generalize b.toNat = n at *
  by_cases h2 : 97 ≤ (lo : Int)
  · rw [decide_eq_true h2]
    by_cases h4 : (lo : Int) ≤ 122
    · rw [decide_eq_true h4]
      go_enter Tryz.func63, Tryz.ntmps63
      go_wp2_with (refine (HD.out _).mono ?_; rintro e w' ⟨rfl, rfl⟩)
      all_goals first
        | (go_ret; refine ⟨?_, rfl⟩; first | rfl | (simp; done) | (simp [*]; done))
        | (exfalso; simp_all; done)
    · rw [decide_eq_false h4]
      have g4 : 122 < (lo : Int) := by omega
      cases dg
      · by_cases h8 : (n : Int) = 45
        · have e8 : ((n : Int) == 45) = true := by simpa using h8
          rw [e8]
          clear h8
          go_enter Tryz.func63, Tryz.ntmps63
          go_wp2_with (refine (HD.out _).mono ?_; rintro e w' ⟨rfl, rfl⟩)
          all_goals first
            | (go_ret; refine ⟨?_, rfl⟩; first | rfl | (simp; done) | (simp [*]; done))
            | (exfalso; simp_all; done)
        · have e8 : ((n : Int) == 45) = false := by simpa using h8
          rw [e8]
          by_cases h10 : (n : Int) = 95
          · have e10 : ((n : Int) == 95) = true := by simpa using h10
            rw [e10]
            clear h10
            go_enter Tryz.func63, Tryz.ntmps63
            go_wp2_with (refine (HD.out _).mono ?_; rintro e w' ⟨rfl, rfl⟩)
            all_goals first
              | (go_ret; refine ⟨?_, rfl⟩; first | rfl | (simp; done) | (simp [*]; done))
              | (exfalso; simp_all; done)
          · have e10 : ((n : Int) == 95) = false := by simpa using h10
            rw [e10]
            go_enter Tryz.func63, Tryz.ntmps63
            go_wp2_with (refine (HD.out _).mono ?_; rintro e w' ⟨rfl, rfl⟩)
            all_goals first
              | (go_ret; refine ⟨?_, rfl⟩; first | rfl | (simp; done) | (simp [*]; done))
              | (exfalso; simp_all; done)
      · go_enter Tryz.func63, Tryz.ntmps63
        go_wp2_with (refine (HD.out _).mono ?_; rintro e w' ⟨rfl, rfl⟩)
        all_goals first
          | (go_ret; refine ⟨?_, rfl⟩; first | rfl | (simp; done) | (simp [*]; done))
          | (exfalso; simp_all; done)
  · rw [decide_eq_false h2]
    have g2 : (lo : Int) < 97 := by omega
    cases dg
    · by_cases h6 : (n : Int) = 45
      · have e6 : ((n : Int) == 45) = true := by simpa using h6
        rw [e6]
        clear h6
        go_enter Tryz.func63, Tryz.ntmps63
        go_wp2_with (refine (HD.out _).mono ?_; rintro e w' ⟨rfl, rfl⟩)
        all_goals first
          | (go_ret; refine ⟨?_, rfl⟩; first | rfl | (simp; done) | (simp [*]; done))
          | (exfalso; simp_all; done)
      · have e6 : ((n : Int) == 45) = false := by simpa using h6
        rw [e6]
        by_cases h8 : (n : Int) = 95
        · have e8 : ((n : Int) == 95) = true := by simpa using h8
          rw [e8]
          clear h8
          go_enter Tryz.func63, Tryz.ntmps63
          go_wp2_with (refine (HD.out _).mono ?_; rintro e w' ⟨rfl, rfl⟩)
          all_goals first
            | (go_ret; refine ⟨?_, rfl⟩; first | rfl | (simp; done) | (simp [*]; done))
            | (exfalso; simp_all; done)
        · have e8 : ((n : Int) == 95) = false := by simpa using h8
          rw [e8]
          go_enter Tryz.func63, Tryz.ntmps63
          go_wp2_with (refine (HD.out _).mono ?_; rintro e w' ⟨rfl, rfl⟩)
          all_goals first
            | (go_ret; refine ⟨?_, rfl⟩; first | rfl | (simp; done) | (simp [*]; done))
            | (exfalso; simp_all; done)
    · go_enter Tryz.func63, Tryz.ntmps63
      go_wp2_with (refine (HD.out _).mono ?_; rintro e w' ⟨rfl, rfl⟩)
      all_goals first
        | (go_ret; refine ⟨?_, rfl⟩; first | rfl | (simp; done) | (simp [*]; done))
        | (exfalso; simp_all; done)
theorem nameChar_test : IsTest 63 nameB := ⟨enters_of Tryz.func63 (by kernel_rfl) rfl, nameChar_any⟩

set_option maxHeartbeats 1000000 in
set_option maxRecDepth 100000 in
theorem hexChar_any (b : UInt8) (w : World) : Calls Tryz.prog 132 #[.int .u8 (b.toNat : Int)] w fun e w' => e = .returned (.bool (hexB b)) ∧ w' = w := by
  rw [hexB_int]
  have hb := b.toNat_lt
  have HD : Hid (∀ W, Calls Tryz.prog 64 #[.int .u8 (b.toNat : Int)] W fun e w' => e = .returned (.bool (digB b)) ∧ w' = W) := fun W => digit_any b W
  obtain ⟨dg, hdg⟩ : ∃ x, digB b = x := ⟨_, rfl⟩
  rw [hdg] at HD ⊢
  clear hdg
  have hlo := bits_or32 b
  have hlb := (b ||| 32).toNat_lt
  generalize (b ||| 32).toNat = lo at *
  generalize b.toNat = n at *
  cases dg
  · by_cases h4 : 97 ≤ (lo : Int)
    · rw [decide_eq_true h4]
      by_cases h6 : (lo : Int) ≤ 102
      · rw [decide_eq_true h6]
        go_enter Tryz.func132, Tryz.ntmps132
        go_wp2_with (refine (HD.out _).mono ?_; rintro e w' ⟨rfl, rfl⟩)
        all_goals first
          | (go_ret; refine ⟨?_, rfl⟩; first | rfl | (simp; done) | (simp [*]; done))
          | (exfalso; simp_all; done)
      · rw [decide_eq_false h6]
        have g6 : 102 < (lo : Int) := by omega
        go_enter Tryz.func132, Tryz.ntmps132
        go_wp2_with (refine (HD.out _).mono ?_; rintro e w' ⟨rfl, rfl⟩)
        all_goals first
          | (go_ret; refine ⟨?_, rfl⟩; first | rfl | (simp; done) | (simp [*]; done))
          | (exfalso; simp_all; done)
    · rw [decide_eq_false h4]
      have g4 : (lo : Int) < 97 := by omega
      go_enter Tryz.func132, Tryz.ntmps132
      go_wp2_with (refine (HD.out _).mono ?_; rintro e w' ⟨rfl, rfl⟩)
      all_goals first
        | (go_ret; refine ⟨?_, rfl⟩; first | rfl | (simp; done) | (simp [*]; done))
        | (exfalso; simp_all; done)
  · go_enter Tryz.func132, Tryz.ntmps132
    go_wp2_with (refine (HD.out _).mono ?_; rintro e w' ⟨rfl, rfl⟩)
    all_goals first
      | (go_ret; refine ⟨?_, rfl⟩; first | rfl | (simp; done) | (simp [*]; done))
      | (exfalso; simp_all; done)
theorem hexChar_test : IsTest 132 hexB := ⟨enters_of Tryz.func132 (by kernel_rfl) rfl, hexChar_any⟩


end Go.Proofs.YtdilmefeofdkmaaGreatDoor
