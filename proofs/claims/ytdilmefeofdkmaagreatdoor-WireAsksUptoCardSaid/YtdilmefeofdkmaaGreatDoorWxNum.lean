/-
  WIRE: the document's number, sixteenth, Name. (Printed by wip/gen/wxnum.py.)
-/
import Derived.Test.YtdilmefeofdkmaaGreatDoorSm22
import Derived.Test.YtdilmefeofdkmaaGreatDoorWiSize
import Derived.Test.YtdilmefeofdkmaaGreatDoorWxPlain
namespace Go.Proofs.YtdilmefeofdkmaaGreatDoor
open Go.RowKit Go.PlainAid

theorem ret_int' {a b : Int} (h : a = b) : Ending.returned (.int .i64 a) = .returned (.int .i64 b) := by rw [h]
theorem dig_iff (c : UInt8) : digB c = true ↔ 48 ≤ c.toNat ∧ c.toNat ≤ 57 := by
  unfold digB
  rw [Bool.and_eq_true, decide_eq_true_eq, decide_eq_true_eq, UInt8.le_iff_toNat_le, UInt8.le_iff_toNat_le]
  exact Iff.rfl
theorem decL_snoc (l : List UInt8) (c : UInt8) : decL (l ++ [c]) = 10 * decL l + ((c.toNat : Int) - 48) := by simp [decL, List.foldl_append]

set_option maxHeartbeats 2000000 in
set_option maxRecDepth 100000 in
theorem number_any (s : ByteArray) (w : World) (hs : s.size ≤ 140737488355327) :
    Calls Tryz.prog 101 #[.string s] w fun e w' => e = .returned (.int .i64 (numberV s.data.toList)) ∧ w' = w := by
  have hl : s.data.toList.length = s.size := by rw [Array.length_toList]; rfl
  have HLL := Lib.hid hl
  have HD := Lib.hid (fun i (h : i < s.size) => bt_at h)
  have hb := get_bt s
  by_cases h0 : s.size < 1
  · have e : numberV s.data.toList = -1 := by unfold numberV; rw [if_pos (.inl (by rw [hl]; exact h0))]
    rw [e]
    clear hl
    go_enter Tryz.func101, Tryz.ntmps101
    go_wp2
    go_ret
    exact ⟨rfl, rfl⟩
  by_cases h10 : 10 < s.size
  · have e : numberV s.data.toList = -1 := by unfold numberV; rw [if_pos (.inr (by rw [hl]; exact h10))]
    rw [e]
    clear hl
    go_enter Tryz.func101, Tryz.ntmps101
    go_wp2
    go_ret
    exact ⟨rfl, rfl⟩
  have HE : Hid (numberV s.data.toList = if s.data.toList.all digB then decL s.data.toList else -1) := by
    show _ = _
    unfold numberV
    rw [if_neg (by rw [hl]; omega)]
  clear hl
  go_enter Tryz.func101, Tryz.ntmps101
  go_wp2
  go_loopg [3, 4] s.size (fun gg s3 s4 wr => ∃ (i acc : Nat), i ≤ s.size ∧ s.size - i ≤ gg ∧ s4 = .int .i64 i ∧ s3 = .int .i64 acc ∧ acc ≤ 100000000000 ∧ wr = w ∧ Hid (acc < 10 ^ i) ∧ Hid ((s.data.toList.take i).all digB = true ∧ decL (s.data.toList.take i) = acc))
  case atStart => exact ⟨0, 0, Nat.zero_le _, by omega, rfl, rfl, by omega, rfl, (by show 0 < 10 ^ 0; decide), ⟨rfl, rfl⟩⟩
  case round =>
    obtain ⟨i, acc, hin, hg, rfl, rfl, ha, rfl, HP, HA⟩ := hrel
    by_cases hlt : i < s.size
    · have hltz : (i : Int) < (s.size : Int) := by omega
      obtain ⟨x, hx1, hx2, hx3, hx4⟩ := HD.out i hlt
      have hx256 := x.toNat_lt
      have HX2 := Lib.hid hx2
      have HX3 := Lib.hid hx3
      have HX4 := Lib.hid hx4
      clear hx1 hx2 hx3
      by_cases hd : digB x = true
      · obtain ⟨d1, d2⟩ := (dig_iff x).1 hd
        have d1' : 48 ≤ bt s i := by omega
        have d2' : bt s i ≤ 57 := by omega
        have HP' : Hid (10 * acc + (x.toNat - 48) < 10 ^ (i + 1)) := by
          show _ < _
          have := HP.out
          rw [Nat.pow_succ]; omega
        have HPB : 10 * acc + (x.toNat - 48) ≤ 100000000000 := by
          have h3 : 10 ^ (i + 1) ≤ 10 ^ 10 := Nat.pow_le_pow_right (by decide) (by omega)
          have h4 : (10 : Nat) ^ 10 = 10000000000 := by decide
          have := HP'.out
          omega
        have HN : Hid ((s.data.toList.take (i + 1)).all digB = true ∧ decL (s.data.toList.take (i + 1)) = ((10 * acc + (x.toNat - 48) : Nat) : Int)) := by
          refine ⟨?_, ?_⟩
          · rw [HX3.out, List.all_append, HA.out.1]; simp [hd]
          · rw [HX3.out, decL_snoc, HA.out.2]; omega
        have HPB := Lib.hid HPB
        clear hx4 hd d1 d2
        go_wp2
        go_roundg (s.size - (i + 1))
        case measure => omega
        case rel =>
          refine ⟨i + 1, 10 * acc + (x.toNat - 48), by omega, by omega, by go_num, ?_, HPB.out, rfl, HP', HN⟩
          have h2 := HX4.out
          congr 1
          omega
      · have HR : Hid (numberV s.data.toList = -1) := by
          show _ = _
          rw [HE.out, if_neg]
          intro hall
          apply hd
          have := List.all_eq_true.1 hall x (by
            have : x ∈ s.data.toList.drop i := by rw [HX2.out]; simp
            exact List.mem_of_mem_drop this)
          exact this
        have hd' : ¬ (48 ≤ x.toNat ∧ x.toNat ≤ 57) := fun h => hd ((dig_iff x).2 h)
        by_cases hd1 : bt s i < 48
        · clear hx4 hd hd'
          go_wp2
          go_ret
          rw [HR.out]
          exact ⟨rfl, rfl⟩
        · have hd2 : 57 < bt s i := by omega
          clear hx4 hd hd'
          go_wp2
          go_ret
          rw [HR.out]
          exact ⟨rfl, rfl⟩
    · have he : i = s.size := by omega
      subst he
      have HR : Hid (numberV s.data.toList = acc) := by
        show _ = _
        have h1 := HA.out
        rw [List.take_of_length_le (by rw [HLL.out]; exact Nat.le_refl _)] at h1
        rw [HE.out, if_pos h1.1, h1.2]
      go_wp2
      go_ret
      rw [HR.out]
      exact ⟨rfl, rfl⟩

def sixV (b : UInt8) : Int := if 48 ≤ b.toNat ∧ b.toNat ≤ 57 then (b.toNat : Int) - 48 else if 97 ≤ b.toNat ∧ b.toNat ≤ 102 then (b.toNat : Int) - 87 else if 65 ≤ b.toNat ∧ b.toNat ≤ 70 then (b.toNat : Int) - 55 else -1
theorem sixV_hex (b : UInt8) : (hexB b = true → sixV b = hexD b ∧ 0 ≤ hexD b ∧ hexD b ≤ 15) ∧ (hexB b = false → sixV b = -1) := by
  have h : ∀ n : Fin 256, (hexB (UInt8.ofNat (n : Nat)) = true → sixV (UInt8.ofNat (n : Nat)) = hexD (UInt8.ofNat (n : Nat)) ∧ 0 ≤ hexD (UInt8.ofNat (n : Nat)) ∧ hexD (UInt8.ofNat (n : Nat)) ≤ 15) ∧ (hexB (UInt8.ofNat (n : Nat)) = false → sixV (UInt8.ofNat (n : Nat)) = -1) := by decide +kernel
  have := h ⟨b.toNat, b.toNat_lt⟩
  simpa using this

set_option maxHeartbeats 2000000 in
set_option maxRecDepth 100000 in
theorem sixteenth_any (b : UInt8) (w : World) :
    Calls Tryz.prog 85 #[.int .u8 (b.toNat : Int)] w fun e w' => e = .returned (.int .i64 (sixV b)) ∧ w' = w := by
  have hb := b.toNat_lt
  unfold sixV
  generalize b.toNat = n at *
  by_cases c0 : n ≤ 47
  · have g48 : (n : Int) < 48 := by omega
    have g97 : (n : Int) < 97 := by omega
    have g65 : (n : Int) < 65 := by omega
    have g57 : (n : Int) ≤ 57 := by omega
    have g102 : (n : Int) ≤ 102 := by omega
    have g70 : (n : Int) ≤ 70 := by omega
    rw [show (if 48 ≤ n ∧ n ≤ 57 then (n : Int) - 48 else if 97 ≤ n ∧ n ≤ 102 then (n : Int) - 87 else if 65 ≤ n ∧ n ≤ 70 then (n : Int) - 55 else -1) = -1 from by
      repeat (split <;> try omega)]
    go_enter Tryz.func85, Tryz.ntmps85
    go_wp2_with fail
    go_ret
    refine ⟨?_, rfl⟩
    first | rfl | exact ret_int' (by omega)
  by_cases c1 : n ≤ 57
  · have g48 : (48 : Int) ≤ (n : Int) := by omega
    have g97 : (n : Int) < 97 := by omega
    have g65 : (n : Int) < 65 := by omega
    have g57 : (n : Int) ≤ 57 := by omega
    have g102 : (n : Int) ≤ 102 := by omega
    have g70 : (n : Int) ≤ 70 := by omega
    rw [show (if 48 ≤ n ∧ n ≤ 57 then (n : Int) - 48 else if 97 ≤ n ∧ n ≤ 102 then (n : Int) - 87 else if 65 ≤ n ∧ n ≤ 70 then (n : Int) - 55 else -1) = (n : Int) - 48 from by
      repeat (split <;> try omega)]
    go_enter Tryz.func85, Tryz.ntmps85
    go_wp2_with fail
    go_ret
    refine ⟨?_, rfl⟩
    first | rfl | exact ret_int' (by omega)
  by_cases c2 : n ≤ 64
  · have g48 : (48 : Int) ≤ (n : Int) := by omega
    have g97 : (n : Int) < 97 := by omega
    have g65 : (n : Int) < 65 := by omega
    have g57 : 57 < (n : Int) := by omega
    have g102 : (n : Int) ≤ 102 := by omega
    have g70 : (n : Int) ≤ 70 := by omega
    rw [show (if 48 ≤ n ∧ n ≤ 57 then (n : Int) - 48 else if 97 ≤ n ∧ n ≤ 102 then (n : Int) - 87 else if 65 ≤ n ∧ n ≤ 70 then (n : Int) - 55 else -1) = -1 from by
      repeat (split <;> try omega)]
    go_enter Tryz.func85, Tryz.ntmps85
    go_wp2_with fail
    go_ret
    refine ⟨?_, rfl⟩
    first | rfl | exact ret_int' (by omega)
  by_cases c3 : n ≤ 70
  · have g48 : (48 : Int) ≤ (n : Int) := by omega
    have g97 : (n : Int) < 97 := by omega
    have g65 : (65 : Int) ≤ (n : Int) := by omega
    have g57 : 57 < (n : Int) := by omega
    have g102 : (n : Int) ≤ 102 := by omega
    have g70 : (n : Int) ≤ 70 := by omega
    rw [show (if 48 ≤ n ∧ n ≤ 57 then (n : Int) - 48 else if 97 ≤ n ∧ n ≤ 102 then (n : Int) - 87 else if 65 ≤ n ∧ n ≤ 70 then (n : Int) - 55 else -1) = (n : Int) - 55 from by
      repeat (split <;> try omega)]
    go_enter Tryz.func85, Tryz.ntmps85
    go_wp2_with fail
    go_ret
    refine ⟨?_, rfl⟩
    first | rfl | exact ret_int' (by omega)
  by_cases c4 : n ≤ 96
  · have g48 : (48 : Int) ≤ (n : Int) := by omega
    have g97 : (n : Int) < 97 := by omega
    have g65 : (65 : Int) ≤ (n : Int) := by omega
    have g57 : 57 < (n : Int) := by omega
    have g102 : (n : Int) ≤ 102 := by omega
    have g70 : 70 < (n : Int) := by omega
    rw [show (if 48 ≤ n ∧ n ≤ 57 then (n : Int) - 48 else if 97 ≤ n ∧ n ≤ 102 then (n : Int) - 87 else if 65 ≤ n ∧ n ≤ 70 then (n : Int) - 55 else -1) = -1 from by
      repeat (split <;> try omega)]
    go_enter Tryz.func85, Tryz.ntmps85
    go_wp2_with fail
    go_ret
    refine ⟨?_, rfl⟩
    first | rfl | exact ret_int' (by omega)
  by_cases c5 : n ≤ 102
  · have g48 : (48 : Int) ≤ (n : Int) := by omega
    have g97 : (97 : Int) ≤ (n : Int) := by omega
    have g65 : (65 : Int) ≤ (n : Int) := by omega
    have g57 : 57 < (n : Int) := by omega
    have g102 : (n : Int) ≤ 102 := by omega
    have g70 : 70 < (n : Int) := by omega
    rw [show (if 48 ≤ n ∧ n ≤ 57 then (n : Int) - 48 else if 97 ≤ n ∧ n ≤ 102 then (n : Int) - 87 else if 65 ≤ n ∧ n ≤ 70 then (n : Int) - 55 else -1) = (n : Int) - 87 from by
      repeat (split <;> try omega)]
    go_enter Tryz.func85, Tryz.ntmps85
    go_wp2_with fail
    go_ret
    refine ⟨?_, rfl⟩
    first | rfl | exact ret_int' (by omega)
  have g48 : (48 : Int) ≤ (n : Int) := by omega
  have g97 : (97 : Int) ≤ (n : Int) := by omega
  have g65 : (65 : Int) ≤ (n : Int) := by omega
  have g57 : 57 < (n : Int) := by omega
  have g102 : 102 < (n : Int) := by omega
  have g70 : 70 < (n : Int) := by omega
  rw [show (if 48 ≤ n ∧ n ≤ 57 then (n : Int) - 48 else if 97 ≤ n ∧ n ≤ 102 then (n : Int) - 87 else if 65 ≤ n ∧ n ≤ 70 then (n : Int) - 55 else -1) = -1 from by
    repeat (split <;> try omega)]
  go_enter Tryz.func85, Tryz.ntmps85
  go_wp2_with fail
  go_ret
  refine ⟨?_, rfl⟩
  first | rfl | exact ret_int' (by omega)

theorem nameB_at (b : UInt8) : nameB b = (decide (65 ≤ b.toNat ∧ b.toNat ≤ 90) || decide (97 ≤ b.toNat ∧ b.toNat ≤ 122) || digB b || decide (b.toNat = 45) || decide (b.toNat = 95)) := by
  have h : ∀ n : Fin 256, nameB (UInt8.ofNat (n : Nat)) = (decide (65 ≤ (n : Nat) ∧ (n : Nat) ≤ 90) || decide (97 ≤ (n : Nat) ∧ (n : Nat) ≤ 122) || digB (UInt8.ofNat (n : Nat)) || decide ((n : Nat) = 45) || decide ((n : Nat) = 95)) := by decide +kernel
  have := h ⟨b.toNat, b.toNat_lt⟩
  simpa using this

set_option maxHeartbeats 4000000 in
set_option maxRecDepth 100000 in
theorem rName_any (s : ByteArray) (w : World) (hs : s.size ≤ 140737488355327) :
    Calls Tryz.prog 45 #[.string s] w fun e w' => e = .returned (.bool (allB s.data.toList nameB)) ∧ w' = w := by
  have hl : s.data.toList.length = s.size := by rw [Array.length_toList]; rfl
  have HLL := Lib.hid hl
  have HD := Lib.hid (fun i (h : i < s.size) => bt_at h)
  have hb := get_bt s
  have HRD := Lib.hid rDigit_any
  clear hl
  go_enter Tryz.func45, Tryz.ntmps45
  go_wp2
  go_loopg [3, 4] s.size (fun gg s3 _ wr => ∃ i : Nat, i ≤ s.size ∧ s.size - i ≤ gg ∧ s3 = .int .i64 i ∧ wr = w ∧ Hid ((s.data.toList.take i).all nameB = true))
  case atStart => exact ⟨0, Nat.zero_le _, by omega, rfl, rfl, (by show _ = _; rfl)⟩
  case round =>
    obtain ⟨i, hin, hg, rfl, rfl, HA⟩ := hrel
    by_cases hlt : i < s.size
    · have hltz : (i : Int) < (s.size : Int) := by omega
      obtain ⟨x, hx1, hx2, hx3, hx4⟩ := HD.out i hlt
      have hx256 := x.toNat_lt
      have hnx := nameB_at x
      have hdg := dig_iff x
      have HG : Hid (nameB x = true → Hid ((s.data.toList.take (i + 1)).all nameB = true)) := fun h => by
        show _ = _
        rw [hx3, List.all_append, HA.out]; simp [h]
      have HB : Hid (nameB x = false → Hid (allB s.data.toList nameB = false)) := fun h => by
        show _ = _
        unfold allB
        rw [Bool.and_eq_false_iff]
        right
        rw [Bool.eq_false_iff]
        intro hall
        have := List.all_eq_true.1 hall x (by
          have : x ∈ s.data.toList.drop i := by rw [hx2]; simp
          exact List.mem_of_mem_drop this)
        rw [h] at this
        cases this
      have HDX := Lib.hid (fun W => rDigit_any x W)
      obtain ⟨n, hn⟩ : ∃ n : Int, bt s i = n := ⟨_, rfl⟩
      have hxn : (x.toNat : Int) = n := by omega
      rw [hxn] at HDX
      have hb2 : ∀ h : i < s.size, ((s[i]'h).toNat : Int) = n := fun h => by rw [hb, hn]
      clear hx1 hx2 hx3 hx4
      by_cases c1 : 65 ≤ n ∧ n ≤ 90
      · obtain ⟨c1, c2⟩ := c1
        have HN : Hid (nameB x = true) := by show _ = _; rw [hnx]; simp; omega
        clear hnx hdg hxn
        have HO := HG.out HN.out
        clear HN
        go_wp2_with fail
        go_roundg (s.size - (i + 1))
        case measure => omega
        case rel => exact ⟨i + 1, by omega, by omega, by go_num, rfl, HO⟩
      by_cases c2 : 97 ≤ n ∧ n ≤ 122
      · obtain ⟨c2, c3⟩ := c2
        have c4 : 65 ≤ n := by omega
        have c5 : 90 < n := by omega
        have HN : Hid (nameB x = true) := by show _ = _; rw [hnx]; simp; omega
        clear hnx hdg hxn
        have HO := HG.out HN.out
        clear HN
        go_wp2_with fail
        go_roundg (s.size - (i + 1))
        case measure => omega
        case rel => exact ⟨i + 1, by omega, by omega, by go_num, rfl, HO⟩
      by_cases c3 : n < 65
      · have f1 : n < 65 := c3
        have f2 : n < 97 := by omega
        cases hdx : digB x
        · rw [hdx] at HDX
          by_cases c5 : n = 45
          · subst c5
            have HN : Hid (nameB x = true) := by show _ = _; rw [hnx]; simp; omega
            clear hnx hdg hxn
            clear c1 c2
            go_wp2_with fail
            refine (HDX.out _).mono ?_
            rintro e w1 ⟨rfl, rfl⟩
            have HO := HG.out HN.out
            clear HN
            go_wp2_with fail
            go_roundg (s.size - (i + 1))
            case measure => omega
            case rel => exact ⟨i + 1, by omega, by omega, by go_num, rfl, HO⟩
          · have e1 : (n == 45) = false := by rw [beq_eq_false_iff_ne]; exact c5
            have e1n : (n != 45) = true := by rw [bne_iff_ne]; exact c5
            by_cases c6 : n = 95
            · exfalso; omega
            · have e2 : (n == 95) = false := by rw [beq_eq_false_iff_ne]; exact c6
              have e2n : (n != 95) = true := by rw [bne_iff_ne]; exact c6
              have hnd : ¬ (48 ≤ x.toNat ∧ x.toNat ≤ 57) := fun h => by rw [hdg.2 h] at hdx; cases hdx
              have HN : Hid (nameB x = false) := by show _ = _; rw [hnx, hdx]; simp; omega
              clear hnx hdg hxn c1 c2 hnd
              go_wp2_with fail
              refine (HDX.out _).mono ?_
              rintro e w1 ⟨rfl, rfl⟩
              have HO := HB.out HN.out
              clear HN
              go_wp2_with fail
              go_ret
              rw [HO.out]
              exact ⟨rfl, rfl⟩
        · rw [hdx] at HDX
          have HN : Hid (nameB x = true) := by show _ = _; rw [hnx, hdx]; simp
          clear hnx hdg hxn c1 c2
          go_wp2_with fail
          refine (HDX.out _).mono ?_
          rintro e w1 ⟨rfl, rfl⟩
          have HO := HG.out HN.out
          clear HN
          go_wp2_with fail
          go_roundg (s.size - (i + 1))
          case measure => omega
          case rel => exact ⟨i + 1, by omega, by omega, by go_num, rfl, HO⟩
      by_cases c3 : n < 97
      · have f1 : 65 ≤ n := by omega
        have f2 : 90 < n := by omega
        have f2n : decide (n ≤ 90) = false := decide_eq_false (by omega)
        have f3 : n < 97 := c3
        cases hdx : digB x
        · rw [hdx] at HDX
          by_cases c5 : n = 45
          · exfalso; omega
          · have e1 : (n == 45) = false := by rw [beq_eq_false_iff_ne]; exact c5
            have e1n : (n != 45) = true := by rw [bne_iff_ne]; exact c5
            by_cases c6 : n = 95
            · subst c6
              have HN : Hid (nameB x = true) := by show _ = _; rw [hnx]; simp; omega
              clear hnx hdg hxn
              clear c1 c2
              go_wp2_with fail
              refine (HDX.out _).mono ?_
              rintro e w1 ⟨rfl, rfl⟩
              have HO := HG.out HN.out
              clear HN
              go_wp2_with fail
              go_roundg (s.size - (i + 1))
              case measure => omega
              case rel => exact ⟨i + 1, by omega, by omega, by go_num, rfl, HO⟩
            · have e2 : (n == 95) = false := by rw [beq_eq_false_iff_ne]; exact c6
              have e2n : (n != 95) = true := by rw [bne_iff_ne]; exact c6
              have hnd : ¬ (48 ≤ x.toNat ∧ x.toNat ≤ 57) := fun h => by rw [hdg.2 h] at hdx; cases hdx
              have HN : Hid (nameB x = false) := by show _ = _; rw [hnx, hdx]; simp; omega
              clear hnx hdg hxn c1 c2 hnd
              go_wp2_with fail
              refine (HDX.out _).mono ?_
              rintro e w1 ⟨rfl, rfl⟩
              have HO := HB.out HN.out
              clear HN
              go_wp2_with fail
              go_ret
              rw [HO.out]
              exact ⟨rfl, rfl⟩
        · rw [hdx] at HDX
          have HN : Hid (nameB x = true) := by show _ = _; rw [hnx, hdx]; simp
          clear hnx hdg hxn c1 c2
          go_wp2_with fail
          refine (HDX.out _).mono ?_
          rintro e w1 ⟨rfl, rfl⟩
          have HO := HG.out HN.out
          clear HN
          go_wp2_with fail
          go_roundg (s.size - (i + 1))
          case measure => omega
          case rel => exact ⟨i + 1, by omega, by omega, by go_num, rfl, HO⟩
      have f1 : 65 ≤ n := by omega
      have f2 : 90 < n := by omega
      have f2n : decide (n ≤ 90) = false := decide_eq_false (by omega)
      have f3 : 97 ≤ n := by omega
      have f4 : 122 < n := by omega
      have f4n : decide (n ≤ 122) = false := decide_eq_false (by omega)
      cases hdx : digB x
      · rw [hdx] at HDX
        by_cases c5 : n = 45
        · exfalso; omega
        · have e1 : (n == 45) = false := by rw [beq_eq_false_iff_ne]; exact c5
          have e1n : (n != 45) = true := by rw [bne_iff_ne]; exact c5
          by_cases c6 : n = 95
          · exfalso; omega
          · have e2 : (n == 95) = false := by rw [beq_eq_false_iff_ne]; exact c6
            have e2n : (n != 95) = true := by rw [bne_iff_ne]; exact c6
            have hnd : ¬ (48 ≤ x.toNat ∧ x.toNat ≤ 57) := fun h => by rw [hdg.2 h] at hdx; cases hdx
            have HN : Hid (nameB x = false) := by show _ = _; rw [hnx, hdx]; simp; omega
            clear hnx hdg hxn c1 c2 hnd
            go_wp2_with fail
            refine (HDX.out _).mono ?_
            rintro e w1 ⟨rfl, rfl⟩
            have HO := HB.out HN.out
            clear HN
            go_wp2_with fail
            go_ret
            rw [HO.out]
            exact ⟨rfl, rfl⟩
      · rw [hdx] at HDX
        have HN : Hid (nameB x = true) := by show _ = _; rw [hnx, hdx]; simp
        clear hnx hdg hxn c1 c2
        go_wp2_with fail
        refine (HDX.out _).mono ?_
        rintro e w1 ⟨rfl, rfl⟩
        have HO := HG.out HN.out
        clear HN
        go_wp2_with fail
        go_roundg (s.size - (i + 1))
        case measure => omega
        case rel => exact ⟨i + 1, by omega, by omega, by go_num, rfl, HO⟩
    · have he : i = s.size := by omega
      subst he
      have hbe := bytes_beq s ⟨#[]⟩
      have h1 := HA.out
      rw [List.take_of_length_le (by rw [HLL.out]; exact Nat.le_refl _)] at h1
      by_cases hs0 : s = ⟨#[]⟩
      · subst hs0
        go_wp2_with fail
        go_ret
        exact ⟨rfl, rfl⟩
      · rw [decide_eq_false hs0] at hbe
        have hte : s.toList.isEmpty = false := by
          rw [ByteArray.toList_eq]
          cases hd : s.data.toList with
          | nil =>
            exfalso
            apply hs0
            obtain ⟨⟨l⟩⟩ := s
            simp only at hd
            rw [hd]
          | cons a r => rfl
        have HR : Hid (allB s.data.toList nameB = true) := by
          show _ = _
          unfold allB
          rw [h1, Bool.and_true]
          rw [ByteArray.toList_eq] at hte
          rw [hte]; rfl
        clear h1 hs0
        go_wp2_with fail
        go_ret
        rw [HR.out]
        refine ⟨?_, rfl⟩
        rfl

end Go.Proofs.YtdilmefeofdkmaaGreatDoor
