/-
  SEVERAL SMALL TEXTS IN ONE.
-/
import Derived.Test.YtdilmefeofdkmaaGreatDoorShelf
import Derived.Test.YtdilmefeofdkmaaGreatDoorSm0
import Derived.Lib.ItoaMem
import Derived.Lib.ItoaNum
import Derived.Lib.AtoiAll
import Derived.Lib.IndexLaws
import Derived.Lib.ItoaLen
/-
  Atoi, Itoa in this seat's own form.
-/
namespace Go.Proofs.YtdilmefeofdkmaaGreatDoor
open Go.RowKit

theorem below_bytesWorld (w : World) (e : TypeId) (s : ByteArray) : Below w.heap.size w (Lib.bytesWorld w e s) := by
  refine ⟨?_, ?_, ?_, ?_, fun k hk => ?_⟩
  · unfold Lib.bytesWorld World.freeze; split <;> rfl
  · unfold Lib.bytesWorld World.freeze; split <;> rfl
  · unfold Lib.bytesWorld World.freeze; split <;> rfl
  · unfold Lib.bytesWorld World.freeze; split <;> simp
  · unfold Lib.bytesWorld World.freeze
    split
    · exact Below.heap_alloc _ _ _ hk
    · simp only [Array.getElem?_modify]
      rw [if_neg (by omega)]
      exact Below.heap_alloc w.drew _ _ hk

theorem below_grown' (w : World) (k : Nat) (os : Array Obj) : Below w.heap.size w (Sort.grow (w.drewN k) os) := by
  refine ⟨rfl, rfl, rfl, ?_, fun i hi => ?_⟩
  · show w.heap.size ≤ (w.heap ++ os).size
    simp
  · show (w.heap ++ os)[i]? = _
    rw [Array.getElem?_append_left hi]

theorem itoa_any (n : Int) (h : IntOK n) (w : World) (hg : Glob w) : Calls Tryz.prog 37 #[.int .i64 n] w fun e w' => e = .returned (.string ⟨(Lib.itoa n).toArray⟩) ∧ Below w.heap.size w w' := by
  refine (Tryz.strconv_Itoa n h.1 h.2 w hg.pow).mono ?_
  rintro e w' ⟨rfl, k, os, rfl⟩
  exact ⟨rfl, below_grown' _ _ _⟩

theorem atoi_ok (s : ByteArray) (v : Int) (hs : s.size ≤ 1000) (h : Lib.atoiAll s.data.toList = .ok v) (w : World) : Calls Tryz.prog 113 #[.string s] w fun e w' => e = .returned (.tuple #[.int .i64 v, .nilIface]) ∧ Below w.heap.size w w' := by
  refine (Tryz.strconv_Atoi_ok s (by omega) v h w).mono ?_
  rintro e w' ⟨rfl, rfl | ⟨t, rfl⟩⟩
  · exact ⟨rfl, Below.refl _ _⟩
  · refine ⟨rfl, below_bytesWorld _ _ _⟩

/-- .. at what is no number: an error -/
def AtoiBad (w : World) (e : Ending) (w' : World) : Prop := (∃ v N, e = .returned (.tuple #[.int .i64 v, .iface 144 (.pointer (some ⟨N, 0, none⟩))])) ∧ Below w.heap.size w w'
theorem atoi_bad (s : ByteArray) (hs : s.size ≤ 1000) (h : ∀ v, Lib.atoiAll s.data.toList ≠ .ok v) (w : World) (hg : Glob w) : Calls Tryz.prog 113 #[.string s] w (AtoiBad w) := by
  rcases hc : Lib.atoiAll s.data.toList with v | _ | _
  · exact absurd hc (h v)
  · obtain ⟨te, pe, hv⟩ := hg.esyn
    refine (Tryz.strconv_Atoi_syntax s (by omega) hc _ w hv (.inr ⟨te, pe, rfl⟩)).mono ?_
    rintro e w' ⟨N, rfl, _, _, hb⟩
    exact ⟨⟨_, N, rfl⟩, hb⟩
  · obtain ⟨te, pe, hv⟩ := hg.eran
    refine (Tryz.strconv_Atoi_range s (by omega) hc _ w hv (.inr ⟨te, pe, rfl⟩)).mono ?_
    rintro e w' ⟨N, rfl, _, _, hb⟩
    exact ⟨⟨_, N, rfl⟩, hb⟩

end Go.Proofs.YtdilmefeofdkmaaGreatDoor

/-
  PLAIN: decimal numerals: what digits tell; the numeral of what they tell is they.
-/
namespace Go.Proofs.YtdilmefeofdkmaaGreatDoor
open Go.Lib

/-- what digits tell, behind what others told -/
def digs : Nat → List UInt8 → Option Nat
  | acc, [] => some acc
  | acc, c :: r => if 48 ≤ c.toNat ∧ c.toNat ≤ 57 then digs (10 * acc + (c.toNat - 48)) r else none
/-- a number of at most sixteen digits, without a nought ahead; below 0: it is none -/
def valueL (l : List UInt8) : Int :=
  if l = [] ∨ 16 < l.length ∨ (1 < l.length ∧ l.head? = some 48) then -1 else match digs 0 l with | none => -1 | some n => n

theorem digs_append : ∀ (l r : List UInt8) (acc : Nat), digs acc (l ++ r) = (digs acc l).bind fun a => digs a r
  | [], r, acc => by simp [digs]
  | c :: l, r, acc => by
    simp only [List.cons_append, digs]
    split
    · exact digs_append l r _
    · rfl
theorem digs_snoc {l : List UInt8} {c : UInt8} {acc u : Nat} (h : digs acc (l ++ [c]) = some u) : ∃ v, digs acc l = some v ∧ 48 ≤ c.toNat ∧ c.toNat ≤ 57 ∧ u = 10 * v + (c.toNat - 48) := by
  rw [digs_append, Option.bind_eq_some_iff] at h
  obtain ⟨v, h1, h2⟩ := h
  simp only [digs] at h2
  split at h2
  · rename_i hc
    exact ⟨v, h1, hc.1, hc.2, by simpa using h2.symm⟩
  · cases h2
theorem digs_ge : ∀ (l : List UInt8) (acc u : Nat), digs acc l = some u → acc ≤ u
  | [], acc, u, h => by simp [digs] at h; omega
  | c :: l, acc, u, h => by
    simp only [digs] at h
    split at h
    · have := digs_ge l _ u h; omega
    · cases h
theorem ofNat_digit {c : UInt8} (h1 : 48 ≤ c.toNat) : UInt8.ofNat (48 + (c.toNat - 48)) = c := by
  rw [show 48 + (c.toNat - 48) = c.toNat by omega]
  exact UInt8.ofNat_toNat

theorem snoc_of {α : Type} {l : List α} (h : l ≠ []) : ∃ a x, l = a ++ [x] := ⟨l.dropLast, l.getLast h, (List.dropLast_concat_getLast h).symm⟩

/-- digits without a nought ahead are the numeral of what they tell -/
theorem decDigits_digs : ∀ (k : Nat) (l : List UInt8) (u : Nat), l.length = k → l ≠ [] → digs 0 l = some u → (l.length = 1 ∨ l.head? ≠ some 48) → decDigits u = l
  | 0, l, _, hk, hl, _, _ => absurd (List.eq_nil_of_length_eq_zero hk) hl
  | k + 1, l, u, hk, hl, h, hh => by
    obtain ⟨a, c, rfl⟩ := snoc_of hl
    obtain ⟨v, h1, h2, h3, rfl⟩ := digs_snoc h
    by_cases ha : a = []
    · subst ha
      simp [digs] at h1
      subst h1
      rw [decDigits, dif_pos (by omega)]
      simp [ofNat_digit h2]
    · have hh' : a.head? ≠ some 48 := by
        rcases hh with hh | hh
        · simp at hh; exact absurd hh ha
        · rw [List.head?_append] at hh
          cases hx : a.head? with
          | none => simp
          | some y => rw [hx] at hh; simpa using hh
      have hv : 1 ≤ v := by
        cases a with
        | nil => exact absurd rfl ha
        | cons d a =>
          simp only [digs] at h1
          split at h1
          · rename_i hd
            have := digs_ge _ _ _ h1
            have hne : d.toNat ≠ 48 := fun e => hh' (by simp; exact UInt8.toNat_inj.1 e)
            omega
          · cases h1
      have ih := decDigits_digs k a v (by simp at hk; omega) ha h1 (.inr hh')
      rw [decDigits, dif_neg (by omega), show (10 * v + (c.toNat - 48)) / 10 = v by omega, show (10 * v + (c.toNat - 48)) % 10 = c.toNat - 48 by omega, ih, ofNat_digit h2]

theorem toNat_digit {d : Nat} (h : d < 10) : (UInt8.ofNat (48 + d)).toNat = 48 + d := by
  rw [UInt8.toNat_ofNat']; omega
theorem digs_decDigits (u : Nat) : digs 0 (decDigits u) = some u := by
  induction u using Nat.strongRecOn with
  | _ u ih =>
    rw [decDigits]
    by_cases h : u < 10
    · rw [dif_pos h]
      simp only [digs, toNat_digit h]
      rw [if_pos (by omega)]; simp
    · rw [dif_neg h, digs_append, ih (u / 10) (by omega)]
      simp only [Option.bind_some, digs, toNat_digit (show u % 10 < 10 by omega)]
      rw [if_pos (by omega)]
      congr 1; omega
theorem decDigits_ne (u : Nat) : decDigits u ≠ [] := by
  rw [decDigits]; split <;> simp
theorem decDigits_head (u : Nat) : (decDigits u).length = 1 ∨ (decDigits u).head? ≠ some 48 := by
  induction u using Nat.strongRecOn with
  | _ u ih =>
    rw [decDigits]
    by_cases h : u < 10
    · rw [dif_pos h]; exact .inl rfl
    · rw [dif_neg h]
      right
      rcases ih (u / 10) (by omega) with h1 | h1
      · by_cases h2 : u / 10 < 10
        · rw [decDigits, dif_pos h2]
          rw [List.singleton_append, List.head?_cons]
          intro e
          have := congrArg UInt8.toNat (Option.some.inj e)
          rw [toNat_digit h2] at this
          have h48 : (48 : UInt8).toNat = 48 := rfl
          omega
        · exfalso
          rw [decDigits, dif_neg h2] at h1
          have := decDigits_ne (u / 10 / 10)
          simp at h1
          exact this h1
      · rw [List.head?_append]
        cases hx : (decDigits (u / 10)).head? with
        | none => exact absurd (List.head?_eq_none_iff.1 hx) (decDigits_ne _)
        | some y => rw [hx] at h1; simpa using h1

theorem parse_digs : ∀ (l : List UInt8) (acc u : Nat), digs acc l = some u → u < 1844674407370955162 → parseUint10 acc l = .ok u
  | [], acc, u, h, _ => by simp [digs] at h; simp [parseUint10, h]
  | c :: l, acc, u, h, hu => by
    simp only [digs] at h
    simp only [parseUint10]
    split at h
    · rename_i hc
      have := digs_ge _ _ _ h
      rw [if_pos hc, if_neg (by omega), if_neg (by omega), show acc * 10 + (c.toNat - 48) = 10 * acc + (c.toNat - 48) by omega]
      exact parse_digs l _ u h hu
    · cases h

theorem atoi_digs {l : List UInt8} {u : Nat} (hl : l ≠ []) (h : digs 0 l = some u) (hu : u < 1000000) : atoiAll l = .ok (u : Int) := by
  cases l with
  | nil => exact absurd rfl hl
  | cons c r =>
    have hp := parse_digs _ _ _ h (by omega)
    have hc : 48 ≤ c.toNat ∧ c.toNat ≤ 57 := by
      simp only [digs] at h
      split at h
      · assumption
      · cases h
    unfold atoiAll
    simp only
    rw [if_neg (by omega)]
    unfold parseMag
    rw [if_neg (by simp), hp]
    simp only
    rw [if_neg (by omega), if_neg (by omega), if_neg (by omega)]

end Go.Proofs.YtdilmefeofdkmaaGreatDoor

/-
  PLAIN: fields of records: how they are written, how they are taken off.
-/
namespace Go.Proofs.YtdilmefeofdkmaaGreatDoor
open Go.Lib

/-- a text cut at the first of a byte -/
def cut1 (l : List UInt8) (c : UInt8) : List UInt8 × List UInt8 × Bool :=
  if 0 ≤ indexByte l c then (l.take (indexByte l c).toNat, l.drop ((indexByte l c).toNat + 1), true) else (l, [], false)

theorem indexByte_cases (l : List UInt8) (c : UInt8) : (indexByte l c = -1 ∧ c ∉ l) ∨ ∃ i : Nat, indexByte l c = i ∧ i < l.length ∧ l[i]? = some c ∧ c ∉ l.take i := by
  rcases Int.lt_or_le (indexByte l c) 0 with h | h
  · have h1 := indexByte_ge l c
    have h2 : indexByte l c = -1 := by omega
    refine .inl ⟨h2, fun hc => ?_⟩
    obtain ⟨i, hi⟩ := List.getElem?_of_mem hc
    exact indexByte_none h2 i hi
  · obtain ⟨i, hi⟩ := Int.eq_ofNat_of_zero_le h
    obtain ⟨h1, h2⟩ := indexByte_some hi
    refine .inr ⟨i, hi, (List.getElem?_eq_some_iff.1 h1).1, h1, fun hc => ?_⟩
    obtain ⟨k, hk⟩ := List.getElem?_of_mem hc
    have hk' := (List.getElem?_eq_some_iff.1 hk).1
    rw [List.length_take] at hk'
    rw [List.getElem?_take, if_pos (by omega)] at hk
    exact h2 k (by omega) hk

theorem cut1_no {l : List UInt8} {c : UInt8} (h : c ∉ l) : cut1 l c = (l, [], false) := by
  unfold cut1
  rcases indexByte_cases l c with ⟨h1, _⟩ | ⟨i, _, _, h2, _⟩
  · rw [h1, if_neg (by omega)]
  · exact absurd (List.mem_of_getElem? h2) h
theorem cut1_at {a b : List UInt8} {c : UInt8} (h : c ∉ a) : cut1 (a ++ c :: b) c = (a, b, true) := by
  unfold cut1
  rcases indexByte_cases (a ++ c :: b) c with ⟨_, h1⟩ | ⟨i, hi, hl, h2, h3⟩
  · exact absurd (by simp) h1
  · have : i = a.length := by
      rcases Nat.lt_trichotomy i a.length with h4 | h4 | h4
      · rw [List.getElem?_append_left h4] at h2
        exact absurd (List.mem_of_getElem? h2) h
      · exact h4
      · exfalso
        apply h3
        rw [List.take_append]
        apply List.mem_append_right
        obtain ⟨k, hk⟩ : ∃ k, i - a.length = k + 1 := ⟨i - a.length - 1, by omega⟩
        rw [hk]; simp
    subst this
    rw [hi, if_pos (by omega)]
    simp
theorem cut1_some {l a b : List UInt8} {c : UInt8} (h : cut1 l c = (a, b, true)) : l = a ++ c :: b ∧ c ∉ a := by
  unfold cut1 at h
  rcases indexByte_cases l c with ⟨h1, _⟩ | ⟨i, hi, hl, h2, h3⟩
  · rw [h1, if_neg (by omega)] at h; simp at h
  · rw [hi, if_pos (by omega)] at h
    simp only [Int.toNat_natCast, Prod.mk.injEq, and_true] at h
    obtain ⟨rfl, rfl⟩ := h
    refine ⟨?_, h3⟩
    have h4 := (List.getElem?_eq_some_iff.1 h2).2
    conv => lhs; rw [← List.take_append_drop i l]
    congr 1
    rw [List.drop_eq_getElem_cons hl, h4]
theorem cut1_flag (l : List UInt8) (c : UInt8) : (cut1 l c).2.2 = true ∨ cut1 l c = (l, [], false) := by
  unfold cut1
  split
  · exact .inl rfl
  · exact .inr rfl
theorem cut1_len (l : List UInt8) (c : UInt8) : (cut1 l c).1.length ≤ l.length ∧ (cut1 l c).2.1.length ≤ l.length := by
  unfold cut1
  split
  · simp; omega
  · simp

/-- decimal numerals are read as what they are -/
theorem parse_digs' : ∀ (l : List UInt8) (acc u : Nat), digs acc l = some u → u < 18446744073709551616 → parseUint10 acc l = .ok u
  | [], acc, u, h, _ => by simp [digs] at h; simp [parseUint10, h]
  | c :: l, acc, u, h, hu => by
    simp only [digs] at h
    simp only [parseUint10]
    split at h
    · rename_i hc
      have := digs_ge _ _ _ h
      rw [if_pos hc, if_neg (by omega), if_neg (by omega), show acc * 10 + (c.toNat - 48) = 10 * acc + (c.toNat - 48) by omega]
      exact parse_digs' l _ u h hu
    · cases h

theorem atoi_itoa (n : Nat) (hn : n < 9223372036854775808) : atoiAll (itoa (n : Int)) = .ok (n : Int) := by
  rw [itoa_nonneg]
  have hd := digs_decDigits n
  cases hl : decDigits n with
  | nil => exact absurd hl (decDigits_ne n)
  | cons c r =>
    rw [hl] at hd
    have hp := parse_digs' _ _ _ hd (by omega)
    have hc : 48 ≤ c.toNat ∧ c.toNat ≤ 57 := by
      simp only [digs] at hd
      split at hd
      · assumption
      · cases hd
    unfold atoiAll
    simp only
    rw [if_neg (by omega)]
    have hm : parseMag (c :: r) = .ok n := by unfold parseMag; exact hp
    rw [hm]
    simp only
    rw [if_neg (by omega), if_neg (by omega), if_neg (by omega)]

theorem decDigits_digit (n : Nat) : ∀ c ∈ decDigits n, 48 ≤ c.toNat ∧ c.toNat ≤ 57 := by
  have h : ∀ (l : List UInt8) (acc u : Nat), digs acc l = some u → ∀ c ∈ l, 48 ≤ c.toNat ∧ c.toNat ≤ 57 := by
    intro l
    induction l with
    | nil => intro _ _ _ c hc; cases hc
    | cons x l ih =>
      intro acc u h c hc
      simp only [digs] at h
      split at h
      · rcases List.mem_cons.1 hc with rfl | hc
        · assumption
        · exact ih _ _ h c hc
      · cases h
  exact h _ _ _ (digs_decDigits n)

theorem itoa_inj {a b : Int} (h : itoa a = itoa b) : a = b := by
  have hp : ∀ u v : Nat, decDigits u = decDigits v → u = v := fun u v e => by
    have h1 := digs_decDigits u
    rw [e, digs_decDigits v] at h1
    exact (Option.some.inj h1).symm
  have hn : ∀ (u v : Nat), decDigits u ≠ 45 :: decDigits v := fun u v e => by
    have := decDigits_digit u 45 (by rw [e]; simp)
    have h45 : (45 : UInt8).toNat = 45 := rfl
    omega
  unfold itoa at h
  by_cases h1 : a < 0 <;> by_cases h2 : b < 0
  · rw [if_pos h1, if_pos h2] at h
    have := hp _ _ (List.cons.inj h).2
    omega
  · rw [if_pos h1, if_neg h2] at h
    exact absurd h.symm (hn _ _)
  · rw [if_neg h1, if_pos h2] at h
    exact absurd h (hn _ _)
  · rw [if_neg h1, if_neg h2] at h
    have := hp _ _ h
    omega

/-- the number that a numeral, as it is told, is -/
def canonInt (l : List UInt8) : Option Int := match atoiAll l with
  | .ok v => if itoa v = l then some v else none
  | _ => none
theorem canon_some {l : List UInt8} {v : Int} (h : canonInt l = some v) : l = itoa v ∧ atoiAll l = .ok v := by
  unfold canonInt at h
  split at h
  · split at h
    · rename_i h1 h2
      obtain rfl := Option.some.inj h
      exact ⟨h2.symm, h1⟩
    · cases h
  · cases h
theorem canon_itoa (n : Nat) (hn : n < 9223372036854775808) : canonInt (itoa (n : Int)) = some (n : Int) := by
  unfold canonInt
  rw [atoi_itoa n hn]
  simp

/-- a field as it is written -/
def fieldL (s : List UInt8) : List UInt8 := itoa (s.length : Int) ++ 58 :: (s ++ [44])
def numL (n : Int) : List UInt8 := fieldL (itoa n)

/-- a field taken off: its text, what is left -/
def takeText (l : List UInt8) : Option (List UInt8 × List UInt8) :=
  match canonInt (cut1 l 58).1 with
  | some n => if (cut1 l 58).2.2 = true ∧ 0 ≤ n ∧ n < (cut1 l 58).2.1.length ∧ (cut1 l 58).2.1[n.toNat]? = some 44 then some ((cut1 l 58).2.1.take n.toNat, (cut1 l 58).2.1.drop (n.toNat + 1)) else none
  | none => none

theorem takeText_field (t r : List UInt8) (ht : t.length < 9223372036854775808) : takeText (fieldL t ++ r) = some (t, r) := by
  have hc : cut1 (fieldL t ++ r) 58 = (itoa (t.length : Int), t ++ 44 :: r, true) := by
    have : fieldL t ++ r = itoa (t.length : Int) ++ 58 :: (t ++ 44 :: r) := by unfold fieldL; simp
    rw [this]
    apply cut1_at
    intro h
    rw [itoa_nonneg] at h
    have := decDigits_digit _ _ h
    have h58 : (58 : UInt8).toNat = 58 := rfl
    omega
  unfold takeText
  rw [hc, canon_itoa _ ht]
  simp only [Int.toNat_natCast]
  rw [if_pos ⟨by simp, by omega, by simp; omega, by simp⟩]
  simp

theorem takeText_some {l t r : List UInt8} (h : takeText l = some (t, r)) : l = fieldL t ++ r ∧ t.length + r.length < l.length := by
  unfold takeText at h
  split at h
  · rename_i n hn
    split at h
    · rename_i hh
      obtain ⟨h1, h2, h3, h4⟩ := hh
      obtain ⟨n, rfl⟩ := Int.eq_ofNat_of_zero_le h2
      simp only [Option.some.injEq, Prod.mk.injEq, Int.toNat_natCast] at h h4
      obtain ⟨⟨a, b, f⟩, hx⟩ : ∃ p, cut1 l 58 = p := ⟨_, rfl⟩
      rw [hx] at h h1 h3 h4 hn
      simp only at h h1 h3 h4 hn
      subst h1
      obtain ⟨rfl, _⟩ := cut1_some hx
      obtain ⟨rfl, rfl⟩ := h
      obtain ⟨rfl, _⟩ := canon_some hn
      have hlt : n < b.length := by omega
      have hb : b = b.take n ++ 44 :: b.drop (n + 1) := by
        conv => lhs; rw [← List.take_append_drop n b]
        congr 1
        rw [List.drop_eq_getElem_cons hlt, (List.getElem?_eq_some_iff.1 h4).2]
      refine ⟨?_, by simp; omega⟩
      unfold fieldL
      rw [List.length_take, Nat.min_eq_left (by omega)]
      conv => lhs; rw [hb]
      simp
    · cases h
  · cases h

/-- what is being read: what is left; was something wrong? -/
structure Fs where
  rest : List UInt8
  bad : Bool

def textF (f : Fs) : List UInt8 × Fs := match takeText f.rest with
  | some (t, r) => (t, ⟨r, f.bad⟩)
  | none => ([], ⟨f.rest, true⟩)
def numberF (a b : Int) (f : Fs) : Int × Fs := match canonInt (textF f).1 with
  | some n => if a ≤ n ∧ n ≤ b then (n, (textF f).2) else (a, ⟨(textF f).2.rest, true⟩)
  | none => (a, ⟨(textF f).2.rest, true⟩)
def flagF (f : Fs) : Bool × Fs := (decide ((numberF 0 1 f).1 = 1), (numberF 0 1 f).2)
def shortF (m : Int) (f : Fs) : List UInt8 × Fs := ((textF f).1, ⟨(textF f).2.rest, (textF f).2.bad || decide (m < (textF f).1.length)⟩)
def ofF (k : List UInt8) (f : Fs) : Fs := if f.bad then f else ⟨(textF f).2.rest, (textF f).1 != k⟩
def doneF (f : Fs) : Int := if f.bad || !f.rest.isEmpty then 59 else 0

theorem textF_len (f : Fs) : (textF f).1.length ≤ f.rest.length ∧ (textF f).2.rest.length ≤ f.rest.length := by
  unfold textF
  split
  · rename_i t r h
    have := (takeText_some h).2
    simp only; omega
  · simp
theorem numberF_len (a b : Int) (f : Fs) : (numberF a b f).2.rest.length ≤ f.rest.length := by
  have := (textF_len f).2
  unfold numberF
  split
  · split <;> exact this
  · exact this
theorem numberF_in {a b : Int} (h : a ≤ b) (f : Fs) : a ≤ (numberF a b f).1 ∧ (numberF a b f).1 ≤ b := by
  unfold numberF
  split
  · split
    · assumption
    · exact ⟨Int.le_refl _, h⟩
  · exact ⟨Int.le_refl _, h⟩

theorem textF_good {f g : Fs} {t : List UInt8} (h : textF f = (t, g)) (hg : g.bad = false) : f.bad = false ∧ f.rest = fieldL t ++ g.rest := by
  unfold textF at h
  split at h
  · rename_i t' r h1
    simp only [Prod.mk.injEq] at h
    obtain ⟨rfl, rfl⟩ := h
    exact ⟨hg, (takeText_some h1).1⟩
  · simp only [Prod.mk.injEq] at h
    obtain ⟨_, rfl⟩ := h
    cases hg
theorem textF_field {f : Fs} {t r : List UInt8} (ht : t.length < 9223372036854775808) (h : f.rest = fieldL t ++ r) : textF f = (t, ⟨r, f.bad⟩) := by
  unfold textF
  rw [h, takeText_field t r ht]
theorem numberF_good {f g : Fs} {a b n : Int} (h : numberF a b f = (n, g)) (hg : g.bad = false) : f.bad = false ∧ (a ≤ n ∧ n ≤ b) ∧ f.rest = numL n ++ g.rest := by
  obtain ⟨⟨t, k⟩, hx⟩ : ∃ p, textF f = p := ⟨_, rfl⟩
  unfold numberF at h
  rw [hx] at h
  simp only at h
  split at h
  · rename_i v hv
    split at h
    · rename_i hb
      simp only [Prod.mk.injEq] at h
      obtain ⟨rfl, rfl⟩ := h
      obtain ⟨h1, h2⟩ := textF_good hx hg
      obtain ⟨rfl, _⟩ := canon_some hv
      exact ⟨h1, hb, h2⟩
    · simp only [Prod.mk.injEq] at h
      obtain ⟨_, rfl⟩ := h
      cases hg
  · simp only [Prod.mk.injEq] at h
    obtain ⟨_, rfl⟩ := h
    cases hg
theorem itoa_len {n : Int} (h0 : -9223372036854775808 ≤ n) (h1 : n ≤ 9223372036854775807) : (itoa n).length < 9223372036854775808 := by
  have := itoa_length_le n h0 h1
  omega
theorem numberF_field {f : Fs} {a b n : Int} {r : List UInt8} (h0 : 0 ≤ n) (h1 : n ≤ 9223372036854775807) (hab : a ≤ n ∧ n ≤ b) (h : f.rest = numL n ++ r) : numberF a b f = (n, ⟨r, f.bad⟩) := by
  have ht := textF_field (itoa_len (by omega) h1) h
  obtain ⟨m, rfl⟩ := Int.eq_ofNat_of_zero_le h0
  unfold numberF
  rw [ht]
  simp only
  rw [canon_itoa m (by omega)]
  simp only
  rw [if_pos hab]
/-- a number that is not within is refused -/
theorem numberF_bad {f : Fs} {a b n : Int} {r : List UInt8} (h0 : -9223372036854775808 ≤ n) (h1 : n ≤ 9223372036854775807) (hab : ¬ (a ≤ n ∧ n ≤ b)) (h : f.rest = numL n ++ r) : (numberF a b f).2.bad = true := by
  have ht := textF_field (itoa_len h0 h1) h
  unfold numberF
  rw [ht]
  simp only
  split
  · rename_i v hv
    have := itoa_inj (canon_some hv).1
    subst this
    rw [if_neg hab]
  · rfl
theorem flagF_good {f g : Fs} {b : Bool} (h : flagF f = (b, g)) (hg : g.bad = false) : f.bad = false ∧ f.rest = numL (if b then 1 else 0) ++ g.rest := by
  obtain ⟨⟨n, k⟩, hx⟩ : ∃ p, numberF 0 1 f = p := ⟨_, rfl⟩
  unfold flagF at h
  rw [hx] at h
  simp only [Prod.mk.injEq] at h
  obtain ⟨rfl, rfl⟩ := h
  obtain ⟨h1, h2, h3⟩ := numberF_good hx hg
  refine ⟨h1, ?_⟩
  have : n = 0 ∨ n = 1 := by omega
  rcases this with rfl | rfl <;> simpa using h3
theorem flagF_field {f : Fs} {b : Bool} {r : List UInt8} (h : f.rest = numL (if b then 1 else 0) ++ r) : flagF f = (b, ⟨r, f.bad⟩) := by
  unfold flagF
  cases b
  · rw [numberF_field (n := 0) (by omega) (by omega) (by omega) (by simpa using h)]; rfl
  · rw [numberF_field (n := 1) (by omega) (by omega) (by omega) (by simpa using h)]; rfl
theorem shortF_good {f g : Fs} {m : Int} {t : List UInt8} (h : shortF m f = (t, g)) (hg : g.bad = false) : f.bad = false ∧ (t.length : Int) ≤ m ∧ f.rest = fieldL t ++ g.rest := by
  obtain ⟨⟨t', k⟩, hx⟩ : ∃ p, textF f = p := ⟨_, rfl⟩
  unfold shortF at h
  rw [hx] at h
  simp only [Prod.mk.injEq] at h
  obtain ⟨rfl, rfl⟩ := h
  simp only [Bool.or_eq_false_iff, decide_eq_false_iff_not] at hg
  obtain ⟨h1, h2⟩ := textF_good hx hg.1
  exact ⟨h1, by omega, h2⟩
theorem shortF_field {f : Fs} {m : Int} {t r : List UInt8} (ht : t.length < 9223372036854775808) (hm : (t.length : Int) ≤ m) (h : f.rest = fieldL t ++ r) : shortF m f = (t, ⟨r, f.bad⟩) := by
  unfold shortF
  rw [textF_field ht h]
  simp; omega
theorem shortF_len (m : Int) (f : Fs) : (shortF m f).1.length ≤ f.rest.length ∧ (shortF m f).2.rest.length ≤ f.rest.length := textF_len f
theorem ofF_len (k : List UInt8) (f : Fs) : (ofF k f).rest.length ≤ f.rest.length := by
  unfold ofF
  split
  · exact Nat.le_refl _
  · exact (textF_len f).2
theorem ofF_good {f : Fs} {k : List UInt8} (hk : k ≠ []) (h : (ofF k f).bad = false) : f.bad = false ∧ f.rest = fieldL k ++ (ofF k f).rest := by
  unfold ofF at *
  cases hf : f.bad
  · rw [hf] at h
    simp only [Bool.false_eq_true, if_false] at *
    obtain ⟨⟨t, g⟩, hx⟩ : ∃ p, textF f = p := ⟨_, rfl⟩
    rw [hx] at h
    simp only [bne_eq_false_iff_eq] at h
    subst h
    refine ⟨trivial, ?_⟩
    rw [hx]
    have hb : g.bad = f.bad := by
      unfold textF at hx
      split at hx
      · simp only [Prod.mk.injEq] at hx; rw [← hx.2]
      · simp only [Prod.mk.injEq] at hx; exact absurd hx.1.symm hk
    exact (textF_good hx (hb.trans hf)).2
  · rw [hf] at h; simp [hf] at h
theorem ofF_field {f : Fs} {k r : List UInt8} (hf : f.bad = false) (ht : k.length < 9223372036854775808) (h : f.rest = fieldL k ++ r) : ofF k f = ⟨r, false⟩ := by
  unfold ofF
  rw [hf, textF_field ht h]
  simp

end Go.Proofs.YtdilmefeofdkmaaGreatDoor
