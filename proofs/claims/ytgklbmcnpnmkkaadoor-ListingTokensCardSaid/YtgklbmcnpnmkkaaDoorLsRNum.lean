/-
  storehouseref19.Number: it is numText.
-/
import Derived.Test.YtgklbmcnpnmkkaaDoorLsReadNum
import Derived.Handy
import Derived.PlainAid
import Derived.StillTailTactics
import Derived.Deep.LoopGhost
namespace Go.Proofs.YtgklbmcnpnmkkaaDoor
open Go.RowKit Go.Lib Go.PlainAid

theorem hexVal_cons (c : UInt8) (l : List UInt8) : hexVal (c :: l) = hxd c * 16 ^ l.length + hexVal l := by
  have key : ∀ (l : List UInt8) (A : Int), l.foldl (fun a c => a * 16 + hxd c) A = A * 16 ^ l.length + hexVal l := by
    intro l
    induction l with
    | nil => intro A; simp [hexVal]
    | cons c l ih =>
      intro A
      have e : hexVal (c :: l) = (0 * 16 + hxd c) * 16 ^ l.length + hexVal l := ih _
      rw [List.foldl_cons, ih, e, List.length_cons, Int.pow_succ, Int.zero_mul, Int.zero_add, Int.add_mul, Int.add_assoc]
      congr 1
      rw [Int.mul_assoc, Int.mul_comm 16]
  have := key l (0 * 16 + hxd c)
  have e : hexVal (c :: l) = l.foldl (fun a c => a * 16 + hxd c) (0 * 16 + hxd c) := rfl
  rw [e, this]
  simp
/-- so many sixteenths are told -/
structure NumSt (n i m : Nat) (t : List UInt8) : Prop where
  len : t.length = i
  low : ∀ c ∈ t, hexLow c = true
  val : (n : Int) = (m : Int) * 16 ^ i + hexVal t
theorem NumSt.step {n i m : Nat} {t : List UInt8} (h : NumSt n i m t) : NumSt n (i + 1) (m / 16) (hexD (m % 16) :: t) := by
  obtain ⟨h1, h2, h3⟩ := h
  have hd := hexD_low (m % 16) (by omega)
  refine ⟨by simp [h1], fun c hc => ?_, ?_⟩
  · rcases List.mem_cons.1 hc with rfl | hc
    · exact hd.1
    · exact h2 c hc
  · rw [hexVal_cons, hd.2, h1, h3, ← Int.add_assoc, Int.pow_succ]
    congr 1
    rw [Int.mul_comm (16 ^ i) 16, ← Int.mul_assoc, ← Int.add_mul]
    congr 1
    omega
theorem NumSt.done {n m : Nat} {t : List UInt8} (h : NumSt n 16 m t) (hn : n ≤ 9007199254740991) : t = numText n := by
  obtain ⟨h1, h2, h3⟩ := h
  have hv := hexVal_nonneg t
  have hm : m = 0 := by
    rcases Nat.eq_zero_or_pos m with h | h
    · exact h
    · exfalso
      have : (1 : Int) * 16 ^ 16 ≤ (m : Int) * 16 ^ 16 := Int.mul_le_mul_of_nonneg_right (by omega) (by decide)
      have e16 : (16 : Int) ^ 16 = 18446744073709551616 := by decide
      rw [e16] at this h3
      omega
  subst hm
  obtain ⟨a1, a2, a3⟩ := numText_in (n := (n : Int)) ⟨by omega, by omega⟩
  exact hexVal_inj 16 _ _ h1 a1 h2 a2 (by rw [a3, h3]; simp)
theorem hexdig_text : ∀ r : Nat, r < 16 → (⟨#[48, 49, 50, 51, 52, 53, 54, 55, 56, 57, 97, 98, 99, 100, 101, 102]⟩ : ByteArray).extract r (r + 1) = ⟨#[hexD r]⟩ := by
  intro r hr
  have : r = 0 ∨ r = 1 ∨ r = 2 ∨ r = 3 ∨ r = 4 ∨ r = 5 ∨ r = 6 ∨ r = 7 ∨ r = 8 ∨ r = 9 ∨ r = 10 ∨ r = 11 ∨ r = 12 ∨ r = 13 ∨ r = 14 ∨ r = 15 := by omega
  rcases this with rfl | rfl | rfl | rfl | rfl | rfl | rfl | rfl | rfl | rfl | rfl | rfl | rfl | rfl | rfl | rfl <;> rfl

set_option maxHeartbeats 2000000 in
set_option maxRecDepth 100000 in
theorem rNumber_any (n : Int) (hn : IntOK n) (w : World) : Calls Tryd.prog 37 #[.int .i64 n] w fun e w' => e = .returned (.string ⟨(numText n).toArray⟩) ∧ w = w' := by
  by_cases hr : 0 ≤ n ∧ n ≤ 9007199254740991
  · obtain ⟨k, rfl⟩ := Int.eq_ofNat_of_zero_le hr.1
    have hk : k ≤ 9007199254740991 := by omega
    obtain ⟨R, hR⟩ : ∃ R, Hid (numText (k : Int) = R) := ⟨_, rfl⟩
    rw [hR.out]
    have x1 : ¬ ((k : Int) < 0) := by omega
    have x2 : ¬ ((9007199254740991 : Int) < (k : Int)) := by omega
    go_enter Tryd.func37, Tryd.ntmps37
    go_wp2
    go_loopg [0, 3, 4] 16 (fun gg s0 s3 s4 wr => ∃ (i m : Nat) (t : List UInt8), i ≤ 16 ∧ 16 - i ≤ gg ∧ s0 = .int .i64 m ∧ s3 = .string ⟨t.toArray⟩ ∧ s4 = .int .i64 i ∧ m ≤ 9007199254740991 ∧ Hid (NumSt k i m t) ∧ wr = w)
    case atStart => exact ⟨0, k, [], by omega, by omega, rfl, rfl, rfl, hk, ⟨rfl, fun c hc => (by cases hc), by simp [hexVal]⟩, rfl⟩
    case round =>
      obtain ⟨i, m, t, hi, hgg, rfl, rfl, rfl, hm, HS, rfl⟩ := hrel
      by_cases hlt : i < 16
      · have hlz : (i : Int) < 16 := by omega
        have htl := HS.out.len
        have hd := Lib.hid (hexdig_text (m % 16) (by omega))
        have f1 : (m : Int).tdiv 16 = ((m / 16 : Nat) : Int) := by rw [Int.tdiv_eq_ediv_of_nonneg (by omega)]; omega
        have f2 : (m : Int).tmod 16 = ((m % 16 : Nat) : Int) := by rw [Int.tmod_eq_emod_of_nonneg (by omega)]; omega
        have f3 : IntKind.i64.wrap (((m % 16 : Nat) : Int) + 1) = ((m % 16 : Nat) : Int) + 1 := by go_arith
        have f4 : IntKind.i64.wrap ((m / 16 : Nat) : Int) = ((m / 16 : Nat) : Int) := by go_arith
        have f5 : IntKind.i64.wrap ((m % 16 : Nat) : Int) = ((m % 16 : Nat) : Int) := by go_arith
        have HN := Lib.hid HS.out.step
        have hm' : m / 16 ≤ 9007199254740991 := by omega
        obtain ⟨r, hr⟩ : ∃ r : Nat, r = m % 16 := ⟨_, rfl⟩
        obtain ⟨q, hq⟩ : ∃ q : Nat, q = m / 16 := ⟨_, rfl⟩
        have hr16 : r < 16 := by omega
        rw [← hr] at hd f2 f3 f5 HN
        rw [← hq] at f1 f4 HN hm'
        have g1 : (0 : Int) ≤ (r : Int) + 1 := by omega
        have g2 : ((r : Int) + 1).toNat = r + 1 := by omega
        have g3 : (ByteArray.mk #[48, 49, 50, 51, 52, 53, 54, 55, 56, 57, 97, 98, 99, 100, 101, 102]).size = 16 := rfl
        have g4 : ¬ 9223372036854775807 < (min (r + 1) 16 - r) + t.length := by omega
        clear HS hr hq
        go_wp2
        go_roundg (16 - (i + 1))
        case measure => omega
        case rel =>
          refine ⟨i + 1, q, hexD r :: t, by omega, Nat.le_refl _, rfl, ?_, by go_num, hm', HN, rfl⟩
          rw [hd.out]
          congr 1
      · obtain rfl : i = 16 := by omega
        have hR' := HS.out.done hk
        rw [hR.out] at hR'
        subst hR'
        go_wp2
        go_ret
        exact ⟨rfl, rfl⟩
  · have e : numText n = [] := numText_out hr
    rw [e]
    clear e
    by_cases h0 : n < 0
    · go_enter Tryd.func37, Tryd.ntmps37
      go_wp2
      go_ret
      exact ⟨rfl, rfl⟩
    · have h1 : 9007199254740991 < n := by omega
      go_enter Tryd.func37, Tryd.ntmps37
      go_wp2
      go_ret
      exact ⟨rfl, rfl⟩

end Go.Proofs.YtgklbmcnpnmkkaaDoor
