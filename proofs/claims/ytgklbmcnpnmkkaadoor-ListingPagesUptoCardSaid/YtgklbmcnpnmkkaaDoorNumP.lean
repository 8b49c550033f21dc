/-
  PLAIN: decimal numerals: what digits tell; the numeral of what they tell is they.
-/
import Derived.Test.YtgklbmcnpnmkkaaDoorBase
import Derived.Lib.ItoaNum
import Derived.Lib.AtoiAll
namespace Go.Proofs.YtgklbmcnpnmkkaaDoor
open Go.Lib

/-- what digits tell, behind what others told -/
def digs : Nat → List UInt8 → Option Nat
  | acc, [] => some acc
  | acc, c :: r => if 48 ≤ c.toNat ∧ c.toNat ≤ 57 then digs (10 * acc + (c.toNat - 48)) r else none
/-- a number of at most sixteen digits, without a nought ahead; below 0: it is none -/
def valueL (l : List UInt8) : Int :=
  if l = [] ∨ 16 < l.length ∨ (1 < l.length ∧ l.head? = some 48) then -1 else match digs 0 l with | none => -1 | some n => n

theorem digs_append : ∀ (l r : List UInt8) (acc : Nat), digs acc (l ++ r) = (digs acc l).bind fun a => digs a r
  | [], r, acc => by simp [digs]
  | c :: l, r, acc => by
    simp only [List.cons_append, digs]
    split
    · exact digs_append l r _
    · rfl
theorem digs_snoc {l : List UInt8} {c : UInt8} {acc u : Nat} (h : digs acc (l ++ [c]) = some u) : ∃ v, digs acc l = some v ∧ 48 ≤ c.toNat ∧ c.toNat ≤ 57 ∧ u = 10 * v + (c.toNat - 48) := by
  rw [digs_append, Option.bind_eq_some_iff] at h
  obtain ⟨v, h1, h2⟩ := h
  simp only [digs] at h2
  split at h2
  · rename_i hc
    exact ⟨v, h1, hc.1, hc.2, by simpa using h2.symm⟩
  · cases h2
theorem digs_ge : ∀ (l : List UInt8) (acc u : Nat), digs acc l = some u → acc ≤ u
  | [], acc, u, h => by simp [digs] at h; omega
  | c :: l, acc, u, h => by
    simp only [digs] at h
    split at h
    · have := digs_ge l _ u h; omega
    · cases h
theorem ofNat_digit {c : UInt8} (h1 : 48 ≤ c.toNat) : UInt8.ofNat (48 + (c.toNat - 48)) = c := by
  rw [show 48 + (c.toNat - 48) = c.toNat by omega]
  exact UInt8.ofNat_toNat

theorem snoc_of {α : Type} {l : List α} (h : l ≠ []) : ∃ a x, l = a ++ [x] := ⟨l.dropLast, l.getLast h, (List.dropLast_concat_getLast h).symm⟩

/-- digits without a nought ahead are the numeral of what they tell -/
theorem decDigits_digs : ∀ (k : Nat) (l : List UInt8) (u : Nat), l.length = k → l ≠ [] → digs 0 l = some u → (l.length = 1 ∨ l.head? ≠ some 48) → decDigits u = l
  | 0, l, _, hk, hl, _, _ => absurd (List.eq_nil_of_length_eq_zero hk) hl
  | k + 1, l, u, hk, hl, h, hh => by
    obtain ⟨a, c, rfl⟩ := snoc_of hl
    obtain ⟨v, h1, h2, h3, rfl⟩ := digs_snoc h
    by_cases ha : a = []
    · subst ha
      simp [digs] at h1
      subst h1
      rw [decDigits, dif_pos (by omega)]
      simp [ofNat_digit h2]
    · have hh' : a.head? ≠ some 48 := by
        rcases hh with hh | hh
        · simp at hh; exact absurd hh ha
        · rw [List.head?_append] at hh
          cases hx : a.head? with
          | none => simp
          | some y => rw [hx] at hh; simpa using hh
      have hv : 1 ≤ v := by
        cases a with
        | nil => exact absurd rfl ha
        | cons d a =>
          simp only [digs] at h1
          split at h1
          · rename_i hd
            have := digs_ge _ _ _ h1
            have hne : d.toNat ≠ 48 := fun e => hh' (by simp; exact UInt8.toNat_inj.1 e)
            omega
          · cases h1
      have ih := decDigits_digs k a v (by simp at hk; omega) ha h1 (.inr hh')
      rw [decDigits, dif_neg (by omega), show (10 * v + (c.toNat - 48)) / 10 = v by omega, show (10 * v + (c.toNat - 48)) % 10 = c.toNat - 48 by omega, ih, ofNat_digit h2]

theorem toNat_digit {d : Nat} (h : d < 10) : (UInt8.ofNat (48 + d)).toNat = 48 + d := by
  rw [UInt8.toNat_ofNat']; omega
theorem digs_decDigits (u : Nat) : digs 0 (decDigits u) = some u := by
  induction u using Nat.strongRecOn with
  | _ u ih =>
    rw [decDigits]
    by_cases h : u < 10
    · rw [dif_pos h]
      simp only [digs, toNat_digit h]
      rw [if_pos (by omega)]; simp
    · rw [dif_neg h, digs_append, ih (u / 10) (by omega)]
      simp only [Option.bind_some, digs, toNat_digit (show u % 10 < 10 by omega)]
      rw [if_pos (by omega)]
      congr 1; omega
theorem decDigits_ne (u : Nat) : decDigits u ≠ [] := by
  rw [decDigits]; split <;> simp
theorem decDigits_head (u : Nat) : (decDigits u).length = 1 ∨ (decDigits u).head? ≠ some 48 := by
  induction u using Nat.strongRecOn with
  | _ u ih =>
    rw [decDigits]
    by_cases h : u < 10
    · rw [dif_pos h]; exact .inl rfl
    · rw [dif_neg h]
      right
      rcases ih (u / 10) (by omega) with h1 | h1
      · by_cases h2 : u / 10 < 10
        · rw [decDigits, dif_pos h2]
          rw [List.singleton_append, List.head?_cons]
          intro e
          have := congrArg UInt8.toNat (Option.some.inj e)
          rw [toNat_digit h2] at this
          have h48 : (48 : UInt8).toNat = 48 := rfl
          omega
        · exfalso
          rw [decDigits, dif_neg h2] at h1
          have := decDigits_ne (u / 10 / 10)
          simp at h1
          exact this h1
      · rw [List.head?_append]
        cases hx : (decDigits (u / 10)).head? with
        | none => exact absurd (List.head?_eq_none_iff.1 hx) (decDigits_ne _)
        | some y => rw [hx] at h1; simpa using h1

theorem parse_digs : ∀ (l : List UInt8) (acc u : Nat), digs acc l = some u → u < 1844674407370955162 → parseUint10 acc l = .ok u
  | [], acc, u, h, _ => by simp [digs] at h; simp [parseUint10, h]
  | c :: l, acc, u, h, hu => by
    simp only [digs] at h
    simp only [parseUint10]
    split at h
    · rename_i hc
      have := digs_ge _ _ _ h
      rw [if_pos hc, if_neg (by omega), if_neg (by omega), show acc * 10 + (c.toNat - 48) = 10 * acc + (c.toNat - 48) by omega]
      exact parse_digs l _ u h hu
    · cases h

theorem atoi_digs {l : List UInt8} {u : Nat} (hl : l ≠ []) (h : digs 0 l = some u) (hu : u < 1000000) : atoiAll l = .ok (u : Int) := by
  cases l with
  | nil => exact absurd rfl hl
  | cons c r =>
    have hp := parse_digs _ _ _ h (by omega)
    have hc : 48 ≤ c.toNat ∧ c.toNat ≤ 57 := by
      simp only [digs] at h
      split at h
      · assumption
      · cases h
    unfold atoiAll
    simp only
    rw [if_neg (by omega)]
    unfold parseMag
    rw [if_neg (by simp), hp]
    simp only
    rw [if_neg (by omega), if_neg (by omega), if_neg (by omega)]

end Go.Proofs.YtgklbmcnpnmkkaaDoor
