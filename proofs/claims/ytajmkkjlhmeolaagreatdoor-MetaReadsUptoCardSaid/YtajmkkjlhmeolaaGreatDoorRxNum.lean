/-
  storehouseref19: Value, Digits.
-/
import Derived.Test.YtajmkkjlhmeolaaGreatDoorSm0
import Derived.Handy
import Derived.Lib.ItoaLen
import Derived.PlainAid
import Derived.StillTailTactics
import Derived.Deep.LoopGhost
namespace Go.Proofs.YtajmkkjlhmeolaaGreatDoor
open Go.RowKit Go.PlainAid

theorem bt_get {s : ByteArray} {i : Nat} (h : i < s.size) : ∃ c : UInt8, s.data.toList[i]? = some c ∧ bt s i = (c.toNat : Int) := by
  refine ⟨s[i], ?_, by unfold bt; rw [dif_pos h]⟩
  rw [Array.getElem?_toList]
  exact Array.getElem?_eq_getElem h
theorem drop_bt {s : ByteArray} {i : Nat} (h : i < s.size) : ∃ c : UInt8, s.data.toList.drop i = c :: s.data.toList.drop (i + 1) ∧ bt s i = (c.toNat : Int) := by
  obtain ⟨c, h1, h2⟩ := bt_get h
  obtain ⟨h3, h4⟩ := List.getElem?_eq_some_iff.1 h1
  exact ⟨c, by rw [List.drop_eq_getElem_cons h3, h4], h2⟩
theorem ret_int' {a b : Int} (h : a = b) : Ending.returned (.int .i64 a) = .returned (.int .i64 b) := by rw [h]

set_option maxHeartbeats 1000000 in
theorem value_any (s : ByteArray) (w : World) (hs : s.size ≤ 140737488351232) :
    Calls Tryz.prog 68 #[.string s] w fun e w' => e = .returned (.int .i64 (valueL s.data.toList)) ∧ w = w' := by
  have hl : s.data.toList.length = s.size := by rw [Array.length_toList]; rfl
  have hlL := Lib.hid hl
  have htl := ByteArray.toList_eq s
  have HTL := Lib.hid htl
  obtain ⟨L, hL⟩ : ∃ L, Hid (s.data.toList = L) := ⟨_, rfl⟩
  by_cases h0 : s.toList = []
  · have e : valueL s.data.toList = -1 := by unfold valueL; rw [if_pos (.inl (by rw [← htl]; exact h0))]
    rw [e]
    clear hl htl
    go_enter Tryz.func68, Tryz.ntmps68
    go_wp2
    go_ret
    exact ⟨rfl, rfl⟩
  have h0' : s.toList.isEmpty = false := by simpa using h0
  have hp : 0 < s.size := by
    rcases Nat.eq_zero_or_pos s.size with h | h
    · exfalso; apply h0; rw [htl]; exact List.eq_nil_of_length_eq_zero (by rw [hl]; exact h)
    · exact h
  by_cases h16 : 16 < s.size
  · have e : valueL s.data.toList = -1 := by unfold valueL; rw [if_pos (.inr (.inl (by rw [hl]; exact h16)))]
    rw [e]
    clear hl htl
    go_enter Tryz.func68, Tryz.ntmps68
    go_wp2
    go_ret
    exact ⟨rfl, rfl⟩
  obtain ⟨c0, hc0, hb0⟩ := bt_get hp
  have hhd : s.data.toList.head? = some c0 := by rw [← hc0]; cases s.data.toList <;> rfl
  have hb := get_bt s
  by_cases hz : 1 < s.size ∧ bt s 0 = 48
  · have e : valueL s.data.toList = -1 := by
      have h48 : (48 : UInt8).toNat = 48 := rfl
      have : c0 = 48 := UInt8.toNat_inj.1 (by omega)
      have hh : s.data.toList.head? = some 48 := by rw [hhd, this]
      unfold valueL
      rw [if_pos (.inr (.inr ⟨by rw [hl]; exact hz.1, hh⟩))]
    rw [e]
    obtain ⟨hz1, hz2⟩ := hz
    clear hl htl hhd hc0 hb0
    go_enter Tryz.func68, Tryz.ntmps68
    go_wp2
    go_ret
    exact ⟨rfl, rfl⟩
  have HE : Hid (valueL s.data.toList = match digs 0 L with | none => -1 | some n => (n : Int)) := by
    show _ = _
    unfold valueL
    rw [if_neg, hL.out]
    · rfl
    · rintro (h | h | ⟨h1, h2⟩)
      · exact h0 (by rw [htl]; exact h)
      · rw [hl] at h; exact h16 h
      · rw [hhd] at h2
        have := Option.some.inj h2
        subst this
        exact hz ⟨by rw [hl] at h1; exact h1, by rw [hb0]; rfl⟩
  have hz' : (1 < s.size ∧ (bt s 0 == 48) = false) ∨ s.size ≤ 1 := by
    by_cases h : 1 < s.size
    · exact .inl ⟨h, beq_eq_false_iff_ne.2 fun e => hz ⟨h, e⟩⟩
    · exact .inr (by omega)
  have HD := Lib.hid (fun i (h : i < s.size) => drop_bt h)
  have b0 := Lib.hid (bt_nonneg s)
  have b1 := Lib.hid (bt_le s)
  clear hl htl hhd hc0 hb0 hz
  rcases hz' with ⟨hz1, hz2⟩ | hz1
  all_goals
    go_enter Tryz.func68, Tryz.ntmps68
    go_wp2
    clear hz1
    go_loop [3, 4] (fun t i => ∃ (k acc : Nat), k ≤ s.size ∧ i = .int .i64 k ∧ t = .int .i64 acc ∧ acc ≤ 10000000000000000 ∧ Hid (acc < 10 ^ k) ∧ Hid (digs 0 L = digs acc (s.data.toList.drop k))) (fun _ i => s.size - (intOf i).toNat)
    case atStart => exact ⟨0, 0, Nat.zero_le _, rfl, rfl, by omega, (show Hid _ from by show 0 < 10 ^ 0; decide), (show Hid _ from by show _ = _; rw [hL.out]; rfl)⟩
    case round =>
      obtain ⟨k, acc, hk, rfl, rfl, ha, HP, HF⟩ := hrel
      by_cases hlt : k < s.size
      · have hltz : (k : Int) < (s.size : Int) := by omega
        obtain ⟨c, hdr, hbc⟩ := HD.out k hlt
        have HDR := Lib.hid hdr
        have HBC := Lib.hid hbc
        have c0 := b0.out k
        have c1 := b1.out k
        clear hdr hbc
        by_cases hd : 48 ≤ bt s k ∧ bt s k ≤ 57
        · obtain ⟨d1, d2⟩ := hd
          have HP' : 10 * acc + (c.toNat - 48) < 10 ^ (k + 1) := by
            have := HP.out
            have h2 := HBC.out
            rw [Nat.pow_succ]; omega
          have HPB : 10 * acc + (c.toNat - 48) ≤ 10000000000000000 := by
            have h3 : 10 ^ (k + 1) ≤ 10 ^ 16 := Nat.pow_le_pow_right (by decide) (by omega)
            have h4 : (10 : Nat) ^ 16 = 10000000000000000 := by decide
            omega
          have HPH := Lib.hid HP'
          have HPBH := Lib.hid HPB
          clear HP' HPB
          go_wp2
          go_round
          case rel =>
            refine ⟨k + 1, 10 * acc + (c.toNat - 48), by omega, by go_num, ?_, HPBH.out, HPH.out, (show Hid _ from ?_)⟩
            · have h2 := HBC.out
              congr 1
              omega
            · show _ = _
              have h2 := HBC.out
              rw [HF.out, HDR.out, digs, if_pos (by omega)]
          case measure => simp [intOf]; omega
        · have HR : Hid (valueL s.data.toList = -1) := by
            show _ = _
            have h2 := HBC.out
            rw [HE.out, HF.out, HDR.out, digs, if_neg (by omega)]
          by_cases hd1 : bt s k < 48
          · go_wp2
            go_ret
            rw [HR.out]
            exact ⟨rfl, rfl⟩
          · have hd2 : 57 < bt s k := by omega
            go_wp2
            go_ret
            rw [HR.out]
            exact ⟨rfl, rfl⟩
      · obtain rfl : k = s.size := by omega
        have HR : Hid (valueL s.data.toList = acc) := by
          show _ = _
          rw [HE.out, HF.out, List.drop_of_length_le (by rw [hlL.out]; exact Nat.le_refl _), digs]
        go_wp2
        go_ret
        rw [HR.out]
        exact ⟨rfl, rfl⟩

theorem digit_text (d : Nat) (h : d < 10) : (ByteArray.mk #[48, 49, 50, 51, 52, 53, 54, 55, 56, 57]).extract d (d + 1) = ⟨#[UInt8.ofNat (48 + d)]⟩ := by
  match d, h with
  | 0, _ | 1, _ | 2, _ | 3, _ | 4, _ | 5, _ | 6, _ | 7, _ | 8, _ | 9, _ => decide +kernel

def DigOut (n : Nat) (w : World) (e : Ending) (w' : World) : Prop := e = .returned (.string ⟨(Lib.decDigits n).toArray⟩) ∧ ∃ m, w' = w.drewN m

set_option maxHeartbeats 1000000 in
theorem digits_small (n : Nat) (w : World) (h : n < 10) : Calls Tryz.prog 103 #[.int .i64 n] w (DigOut n w) := by
  have e : Lib.decDigits n = [UInt8.ofNat (48 + n)] := by rw [Lib.decDigits, dif_pos h]
  have hd := Lib.hid (digit_text n h)
  unfold DigOut
  rw [e]
  clear e
  go_enter Tryz.func103, Tryz.ntmps103
  go_wp2
  go_ret
  exact ⟨by rw [← hd.out]; rfl, 0, rfl⟩

set_option maxHeartbeats 1000000 in
theorem digits_step (n : Nat) (w : World) (h : 10 ≤ n) (hn : n ≤ 9223372036854775807)
    (ih : ∀ W, Calls Tryz.prog 103 #[.int .i64 (n / 10 : Nat)] W fun e w' => e = .returned (.string ⟨(Lib.decDigits (n / 10)).toArray⟩) ∧ ∃ m, w' = W.drewN m) :
    Calls Tryz.prog 103 #[.int .i64 n] w (DigOut n w) := by
  have IH := Lib.hid ih
  have hd := Lib.hid (digit_text (n % 10) (by omega))
  have e : Hid ((⟨(Lib.decDigits n).toArray⟩ : ByteArray) = ⟨(Lib.decDigits (n / 10)).toArray⟩ ++ ⟨#[UInt8.ofNat (48 + n % 10)]⟩) := by
    show _ = _
    rw [Lib.decDigits, dif_neg (by omega)]
    apply ByteArray.ext
    apply Array.ext'
    simp
  have f1 : (n : Int).tdiv 10 = ((n / 10 : Nat) : Int) := by rw [Int.tdiv_eq_ediv_of_nonneg (by omega)]; omega
  have f2 : (n : Int).tmod 10 = ((n % 10 : Nat) : Int) := by rw [Int.tmod_eq_emod_of_nonneg (by omega)]; omega
  have f3 : IntKind.i64.wrap (((n % 10 : Nat) : Int) + 1) = ((n % 10 : Nat) : Int) + 1 := by go_arith
  have f4 : IntKind.i64.wrap ((n / 10 : Nat) : Int) = ((n / 10 : Nat) : Int) := by go_arith
  have f5 : IntKind.i64.wrap ((n % 10 : Nat) : Int) = ((n % 10 : Nat) : Int) := by go_arith
  obtain ⟨q, hq⟩ : ∃ q : Nat, q = n / 10 := ⟨_, rfl⟩
  obtain ⟨r, hr⟩ : ∃ r : Nat, r = n % 10 := ⟨_, rfl⟩
  have hr10 : r < 10 := by omega
  obtain ⟨X, hX⟩ : ∃ X : ByteArray, (⟨(Lib.decDigits (n / 10)).toArray⟩ : ByteArray) = X := ⟨_, rfl⟩
  obtain ⟨Y, hY⟩ : ∃ Y : ByteArray, (⟨(Lib.decDigits n).toArray⟩ : ByteArray) = Y := ⟨_, rfl⟩
  have hXs : X.size ≤ 1000 := by
    rw [← hX]
    have := Lib.itoa_length_le ((n / 10 : Nat) : Int) (by omega) (by omega)
    rw [Lib.itoa_nonneg] at this
    show (Lib.decDigits (n / 10)).toArray.size ≤ 1000
    simp; omega
  unfold DigOut
  rw [hY]
  rw [hX] at IH e
  rw [hY] at e
  rw [← hq] at IH f1 f4
  rw [← hr] at hd e f2 f3 f5
  have g1 : (0 : Int) ≤ (r : Int) + 1 := by omega
  have g2 : ((r : Int) + 1).toNat = r + 1 := by omega
  have g3 : (ByteArray.mk #[48, 49, 50, 51, 52, 53, 54, 55, 56, 57]).size = 10 := rfl
  have g4 : ¬ 9223372036854775807 < X.size + (min (r + 1) 10 - r) := by omega
  clear hn hX hY hq hr
  clear ih
  go_enter Tryz.func103, Tryz.ntmps103
  go_wp2
  go_quiet ((go_at_call 103; exact Calls.quiet_of (IH.out _)))
  go_wp2
  go_ret
  rw [e.out, ← hd.out]
  exact ⟨rfl, _, rfl⟩

theorem digits_any : ∀ (n : Nat) (w : World), n ≤ 9223372036854775807 → Calls Tryz.prog 103 #[.int .i64 n] w (DigOut n w) := by
  intro n
  induction n using Nat.strongRecOn with
  | _ n ih =>
    intro w hn
    by_cases h : n < 10
    · exact digits_small n w h
    · exact digits_step n w (by omega) hn (fun W => ih (n / 10) (by omega) W (by omega))

end Go.Proofs.YtajmkkjlhmeolaaGreatDoor
