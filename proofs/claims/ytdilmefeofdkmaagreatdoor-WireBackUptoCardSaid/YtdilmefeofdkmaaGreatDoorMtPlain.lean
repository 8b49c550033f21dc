/-
  PLAIN: fields of records: how they are written, how they are taken off.
-/
import Derived.Test.YtdilmefeofdkmaaGreatDoorSm5
import Derived.Lib.ItoaMem
import Derived.Lib.IndexLaws
import Derived.Lib.ItoaLen
namespace Go.Proofs.YtdilmefeofdkmaaGreatDoor
open Go.Lib

/-- a text cut at the first of a byte -/
def cut1 (l : List UInt8) (c : UInt8) : List UInt8 × List UInt8 × Bool :=
  if 0 ≤ indexByte l c then (l.take (indexByte l c).toNat, l.drop ((indexByte l c).toNat + 1), true) else (l, [], false)

theorem indexByte_cases (l : List UInt8) (c : UInt8) : (indexByte l c = -1 ∧ c ∉ l) ∨ ∃ i : Nat, indexByte l c = i ∧ i < l.length ∧ l[i]? = some c ∧ c ∉ l.take i := by
  rcases Int.lt_or_le (indexByte l c) 0 with h | h
  · have h1 := indexByte_ge l c
    have h2 : indexByte l c = -1 := by omega
    refine .inl ⟨h2, fun hc => ?_⟩
    obtain ⟨i, hi⟩ := List.getElem?_of_mem hc
    exact indexByte_none h2 i hi
  · obtain ⟨i, hi⟩ := Int.eq_ofNat_of_zero_le h
    obtain ⟨h1, h2⟩ := indexByte_some hi
    refine .inr ⟨i, hi, (List.getElem?_eq_some_iff.1 h1).1, h1, fun hc => ?_⟩
    obtain ⟨k, hk⟩ := List.getElem?_of_mem hc
    have hk' := (List.getElem?_eq_some_iff.1 hk).1
    rw [List.length_take] at hk'
    rw [List.getElem?_take, if_pos (by omega)] at hk
    exact h2 k (by omega) hk

theorem cut1_no {l : List UInt8} {c : UInt8} (h : c ∉ l) : cut1 l c = (l, [], false) := by
  unfold cut1
  rcases indexByte_cases l c with ⟨h1, _⟩ | ⟨i, _, _, h2, _⟩
  · rw [h1, if_neg (by omega)]
  · exact absurd (List.mem_of_getElem? h2) h
theorem cut1_at {a b : List UInt8} {c : UInt8} (h : c ∉ a) : cut1 (a ++ c :: b) c = (a, b, true) := by
  unfold cut1
  rcases indexByte_cases (a ++ c :: b) c with ⟨_, h1⟩ | ⟨i, hi, hl, h2, h3⟩
  · exact absurd (by simp) h1
  · have : i = a.length := by
      rcases Nat.lt_trichotomy i a.length with h4 | h4 | h4
      · rw [List.getElem?_append_left h4] at h2
        exact absurd (List.mem_of_getElem? h2) h
      · exact h4
      · exfalso
        apply h3
        rw [List.take_append]
        apply List.mem_append_right
        obtain ⟨k, hk⟩ : ∃ k, i - a.length = k + 1 := ⟨i - a.length - 1, by omega⟩
        rw [hk]; simp
    subst this
    rw [hi, if_pos (by omega)]
    simp
theorem cut1_some {l a b : List UInt8} {c : UInt8} (h : cut1 l c = (a, b, true)) : l = a ++ c :: b ∧ c ∉ a := by
  unfold cut1 at h
  rcases indexByte_cases l c with ⟨h1, _⟩ | ⟨i, hi, hl, h2, h3⟩
  · rw [h1, if_neg (by omega)] at h; simp at h
  · rw [hi, if_pos (by omega)] at h
    simp only [Int.toNat_natCast, Prod.mk.injEq, and_true] at h
    obtain ⟨rfl, rfl⟩ := h
    refine ⟨?_, h3⟩
    have h4 := (List.getElem?_eq_some_iff.1 h2).2
    conv => lhs; rw [← List.take_append_drop i l]
    congr 1
    rw [List.drop_eq_getElem_cons hl, h4]
theorem cut1_flag (l : List UInt8) (c : UInt8) : (cut1 l c).2.2 = true ∨ cut1 l c = (l, [], false) := by
  unfold cut1
  split
  · exact .inl rfl
  · exact .inr rfl
theorem cut1_len (l : List UInt8) (c : UInt8) : (cut1 l c).1.length ≤ l.length ∧ (cut1 l c).2.1.length ≤ l.length := by
  unfold cut1
  split
  · simp; omega
  · simp

/-- decimal numerals are read as what they are -/
theorem parse_digs' : ∀ (l : List UInt8) (acc u : Nat), digs acc l = some u → u < 18446744073709551616 → parseUint10 acc l = .ok u
  | [], acc, u, h, _ => by simp [digs] at h; simp [parseUint10, h]
  | c :: l, acc, u, h, hu => by
    simp only [digs] at h
    simp only [parseUint10]
    split at h
    · rename_i hc
      have := digs_ge _ _ _ h
      rw [if_pos hc, if_neg (by omega), if_neg (by omega), show acc * 10 + (c.toNat - 48) = 10 * acc + (c.toNat - 48) by omega]
      exact parse_digs' l _ u h hu
    · cases h

theorem atoi_itoa (n : Nat) (hn : n < 9223372036854775808) : atoiAll (itoa (n : Int)) = .ok (n : Int) := by
  rw [itoa_nonneg]
  have hd := digs_decDigits n
  cases hl : decDigits n with
  | nil => exact absurd hl (decDigits_ne n)
  | cons c r =>
    rw [hl] at hd
    have hp := parse_digs' _ _ _ hd (by omega)
    have hc : 48 ≤ c.toNat ∧ c.toNat ≤ 57 := by
      simp only [digs] at hd
      split at hd
      · assumption
      · cases hd
    unfold atoiAll
    simp only
    rw [if_neg (by omega)]
    have hm : parseMag (c :: r) = .ok n := by unfold parseMag; exact hp
    rw [hm]
    simp only
    rw [if_neg (by omega), if_neg (by omega), if_neg (by omega)]

theorem decDigits_digit (n : Nat) : ∀ c ∈ decDigits n, 48 ≤ c.toNat ∧ c.toNat ≤ 57 := by
  have h : ∀ (l : List UInt8) (acc u : Nat), digs acc l = some u → ∀ c ∈ l, 48 ≤ c.toNat ∧ c.toNat ≤ 57 := by
    intro l
    induction l with
    | nil => intro _ _ _ c hc; cases hc
    | cons x l ih =>
      intro acc u h c hc
      simp only [digs] at h
      split at h
      · rcases List.mem_cons.1 hc with rfl | hc
        · assumption
        · exact ih _ _ h c hc
      · cases h
  exact h _ _ _ (digs_decDigits n)

theorem itoa_inj {a b : Int} (h : itoa a = itoa b) : a = b := by
  have hp : ∀ u v : Nat, decDigits u = decDigits v → u = v := fun u v e => by
    have h1 := digs_decDigits u
    rw [e, digs_decDigits v] at h1
    exact (Option.some.inj h1).symm
  have hn : ∀ (u v : Nat), decDigits u ≠ 45 :: decDigits v := fun u v e => by
    have := decDigits_digit u 45 (by rw [e]; simp)
    have h45 : (45 : UInt8).toNat = 45 := rfl
    omega
  unfold itoa at h
  by_cases h1 : a < 0 <;> by_cases h2 : b < 0
  · rw [if_pos h1, if_pos h2] at h
    have := hp _ _ (List.cons.inj h).2
    omega
  · rw [if_pos h1, if_neg h2] at h
    exact absurd h.symm (hn _ _)
  · rw [if_neg h1, if_pos h2] at h
    exact absurd h (hn _ _)
  · rw [if_neg h1, if_neg h2] at h
    have := hp _ _ h
    omega

/-- the number that a numeral, as it is told, is -/
def canonInt (l : List UInt8) : Option Int := match atoiAll l with
  | .ok v => if itoa v = l then some v else none
  | _ => none
theorem canon_some {l : List UInt8} {v : Int} (h : canonInt l = some v) : l = itoa v ∧ atoiAll l = .ok v := by
  unfold canonInt at h
  split at h
  · split at h
    · rename_i h1 h2
      obtain rfl := Option.some.inj h
      exact ⟨h2.symm, h1⟩
    · cases h
  · cases h
theorem canon_itoa (n : Nat) (hn : n < 9223372036854775808) : canonInt (itoa (n : Int)) = some (n : Int) := by
  unfold canonInt
  rw [atoi_itoa n hn]
  simp

/-- a field as it is written -/
def fieldL (s : List UInt8) : List UInt8 := itoa (s.length : Int) ++ 58 :: (s ++ [44])
def numL (n : Int) : List UInt8 := fieldL (itoa n)

/-- a field taken off: its text, what is left -/
def takeText (l : List UInt8) : Option (List UInt8 × List UInt8) :=
  match canonInt (cut1 l 58).1 with
  | some n => if (cut1 l 58).2.2 = true ∧ 0 ≤ n ∧ n < (cut1 l 58).2.1.length ∧ (cut1 l 58).2.1[n.toNat]? = some 44 then some ((cut1 l 58).2.1.take n.toNat, (cut1 l 58).2.1.drop (n.toNat + 1)) else none
  | none => none

theorem takeText_field (t r : List UInt8) (ht : t.length < 9223372036854775808) : takeText (fieldL t ++ r) = some (t, r) := by
  have hc : cut1 (fieldL t ++ r) 58 = (itoa (t.length : Int), t ++ 44 :: r, true) := by
    have : fieldL t ++ r = itoa (t.length : Int) ++ 58 :: (t ++ 44 :: r) := by unfold fieldL; simp
    rw [this]
    apply cut1_at
    intro h
    rw [itoa_nonneg] at h
    have := decDigits_digit _ _ h
    have h58 : (58 : UInt8).toNat = 58 := rfl
    omega
  unfold takeText
  rw [hc, canon_itoa _ ht]
  simp only [Int.toNat_natCast]
  rw [if_pos ⟨by simp, by omega, by simp; omega, by simp⟩]
  simp

theorem takeText_some {l t r : List UInt8} (h : takeText l = some (t, r)) : l = fieldL t ++ r ∧ t.length + r.length < l.length := by
  unfold takeText at h
  split at h
  · rename_i n hn
    split at h
    · rename_i hh
      obtain ⟨h1, h2, h3, h4⟩ := hh
      obtain ⟨n, rfl⟩ := Int.eq_ofNat_of_zero_le h2
      simp only [Option.some.injEq, Prod.mk.injEq, Int.toNat_natCast] at h h4
      obtain ⟨⟨a, b, f⟩, hx⟩ : ∃ p, cut1 l 58 = p := ⟨_, rfl⟩
      rw [hx] at h h1 h3 h4 hn
      simp only at h h1 h3 h4 hn
      subst h1
      obtain ⟨rfl, _⟩ := cut1_some hx
      obtain ⟨rfl, rfl⟩ := h
      obtain ⟨rfl, _⟩ := canon_some hn
      have hlt : n < b.length := by omega
      have hb : b = b.take n ++ 44 :: b.drop (n + 1) := by
        conv => lhs; rw [← List.take_append_drop n b]
        congr 1
        rw [List.drop_eq_getElem_cons hlt, (List.getElem?_eq_some_iff.1 h4).2]
      refine ⟨?_, by simp; omega⟩
      unfold fieldL
      rw [List.length_take, Nat.min_eq_left (by omega)]
      conv => lhs; rw [hb]
      simp
    · cases h
  · cases h

/-- what is being read: what is left; was something wrong? -/
structure Fs where
  rest : List UInt8
  bad : Bool

def textF (f : Fs) : List UInt8 × Fs := match takeText f.rest with
  | some (t, r) => (t, ⟨r, f.bad⟩)
  | none => ([], ⟨f.rest, true⟩)
def numberF (a b : Int) (f : Fs) : Int × Fs := match canonInt (textF f).1 with
  | some n => if a ≤ n ∧ n ≤ b then (n, (textF f).2) else (a, ⟨(textF f).2.rest, true⟩)
  | none => (a, ⟨(textF f).2.rest, true⟩)
def flagF (f : Fs) : Bool × Fs := (decide ((numberF 0 1 f).1 = 1), (numberF 0 1 f).2)
def shortF (m : Int) (f : Fs) : List UInt8 × Fs := ((textF f).1, ⟨(textF f).2.rest, (textF f).2.bad || decide (m < (textF f).1.length)⟩)
def ofF (k : List UInt8) (f : Fs) : Fs := if f.bad then f else ⟨(textF f).2.rest, (textF f).1 != k⟩
def doneF (f : Fs) : Int := if f.bad || !f.rest.isEmpty then 59 else 0

theorem textF_len (f : Fs) : (textF f).1.length ≤ f.rest.length ∧ (textF f).2.rest.length ≤ f.rest.length := by
  unfold textF
  split
  · rename_i t r h
    have := (takeText_some h).2
    simp only; omega
  · simp
theorem numberF_len (a b : Int) (f : Fs) : (numberF a b f).2.rest.length ≤ f.rest.length := by
  have := (textF_len f).2
  unfold numberF
  split
  · split <;> exact this
  · exact this
theorem numberF_in {a b : Int} (h : a ≤ b) (f : Fs) : a ≤ (numberF a b f).1 ∧ (numberF a b f).1 ≤ b := by
  unfold numberF
  split
  · split
    · assumption
    · exact ⟨Int.le_refl _, h⟩
  · exact ⟨Int.le_refl _, h⟩

theorem textF_good {f g : Fs} {t : List UInt8} (h : textF f = (t, g)) (hg : g.bad = false) : f.bad = false ∧ f.rest = fieldL t ++ g.rest := by
  unfold textF at h
  split at h
  · rename_i t' r h1
    simp only [Prod.mk.injEq] at h
    obtain ⟨rfl, rfl⟩ := h
    exact ⟨hg, (takeText_some h1).1⟩
  · simp only [Prod.mk.injEq] at h
    obtain ⟨_, rfl⟩ := h
    cases hg
theorem textF_field {f : Fs} {t r : List UInt8} (ht : t.length < 9223372036854775808) (h : f.rest = fieldL t ++ r) : textF f = (t, ⟨r, f.bad⟩) := by
  unfold textF
  rw [h, takeText_field t r ht]
theorem numberF_good {f g : Fs} {a b n : Int} (h : numberF a b f = (n, g)) (hg : g.bad = false) : f.bad = false ∧ (a ≤ n ∧ n ≤ b) ∧ f.rest = numL n ++ g.rest := by
  obtain ⟨⟨t, k⟩, hx⟩ : ∃ p, textF f = p := ⟨_, rfl⟩
  unfold numberF at h
  rw [hx] at h
  simp only at h
  split at h
  · rename_i v hv
    split at h
    · rename_i hb
      simp only [Prod.mk.injEq] at h
      obtain ⟨rfl, rfl⟩ := h
      obtain ⟨h1, h2⟩ := textF_good hx hg
      obtain ⟨rfl, _⟩ := canon_some hv
      exact ⟨h1, hb, h2⟩
    · simp only [Prod.mk.injEq] at h
      obtain ⟨_, rfl⟩ := h
      cases hg
  · simp only [Prod.mk.injEq] at h
    obtain ⟨_, rfl⟩ := h
    cases hg
theorem itoa_len {n : Int} (h0 : -9223372036854775808 ≤ n) (h1 : n ≤ 9223372036854775807) : (itoa n).length < 9223372036854775808 := by
  have := itoa_length_le n h0 h1
  omega
theorem numberF_field {f : Fs} {a b n : Int} {r : List UInt8} (h0 : 0 ≤ n) (h1 : n ≤ 9223372036854775807) (hab : a ≤ n ∧ n ≤ b) (h : f.rest = numL n ++ r) : numberF a b f = (n, ⟨r, f.bad⟩) := by
  have ht := textF_field (itoa_len (by omega) h1) h
  obtain ⟨m, rfl⟩ := Int.eq_ofNat_of_zero_le h0
  unfold numberF
  rw [ht]
  simp only
  rw [canon_itoa m (by omega)]
  simp only
  rw [if_pos hab]
/-- a number that is not within is refused -/
theorem numberF_bad {f : Fs} {a b n : Int} {r : List UInt8} (h0 : -9223372036854775808 ≤ n) (h1 : n ≤ 9223372036854775807) (hab : ¬ (a ≤ n ∧ n ≤ b)) (h : f.rest = numL n ++ r) : (numberF a b f).2.bad = true := by
  have ht := textF_field (itoa_len h0 h1) h
  unfold numberF
  rw [ht]
  simp only
  split
  · rename_i v hv
    have := itoa_inj (canon_some hv).1
    subst this
    rw [if_neg hab]
  · rfl
theorem flagF_good {f g : Fs} {b : Bool} (h : flagF f = (b, g)) (hg : g.bad = false) : f.bad = false ∧ f.rest = numL (if b then 1 else 0) ++ g.rest := by
  obtain ⟨⟨n, k⟩, hx⟩ : ∃ p, numberF 0 1 f = p := ⟨_, rfl⟩
  unfold flagF at h
  rw [hx] at h
  simp only [Prod.mk.injEq] at h
  obtain ⟨rfl, rfl⟩ := h
  obtain ⟨h1, h2, h3⟩ := numberF_good hx hg
  refine ⟨h1, ?_⟩
  have : n = 0 ∨ n = 1 := by omega
  rcases this with rfl | rfl <;> simpa using h3
theorem flagF_field {f : Fs} {b : Bool} {r : List UInt8} (h : f.rest = numL (if b then 1 else 0) ++ r) : flagF f = (b, ⟨r, f.bad⟩) := by
  unfold flagF
  cases b
  · rw [numberF_field (n := 0) (by omega) (by omega) (by omega) (by simpa using h)]; rfl
  · rw [numberF_field (n := 1) (by omega) (by omega) (by omega) (by simpa using h)]; rfl
theorem shortF_good {f g : Fs} {m : Int} {t : List UInt8} (h : shortF m f = (t, g)) (hg : g.bad = false) : f.bad = false ∧ (t.length : Int) ≤ m ∧ f.rest = fieldL t ++ g.rest := by
  obtain ⟨⟨t', k⟩, hx⟩ : ∃ p, textF f = p := ⟨_, rfl⟩
  unfold shortF at h
  rw [hx] at h
  simp only [Prod.mk.injEq] at h
  obtain ⟨rfl, rfl⟩ := h
  simp only [Bool.or_eq_false_iff, decide_eq_false_iff_not] at hg
  obtain ⟨h1, h2⟩ := textF_good hx hg.1
  exact ⟨h1, by omega, h2⟩
theorem shortF_field {f : Fs} {m : Int} {t r : List UInt8} (ht : t.length < 9223372036854775808) (hm : (t.length : Int) ≤ m) (h : f.rest = fieldL t ++ r) : shortF m f = (t, ⟨r, f.bad⟩) := by
  unfold shortF
  rw [textF_field ht h]
  simp; omega
theorem shortF_len (m : Int) (f : Fs) : (shortF m f).1.length ≤ f.rest.length ∧ (shortF m f).2.rest.length ≤ f.rest.length := textF_len f
theorem ofF_len (k : List UInt8) (f : Fs) : (ofF k f).rest.length ≤ f.rest.length := by
  unfold ofF
  split
  · exact Nat.le_refl _
  · exact (textF_len f).2
theorem ofF_good {f : Fs} {k : List UInt8} (hk : k ≠ []) (h : (ofF k f).bad = false) : f.bad = false ∧ f.rest = fieldL k ++ (ofF k f).rest := by
  unfold ofF at *
  cases hf : f.bad
  · rw [hf] at h
    simp only [Bool.false_eq_true, if_false] at *
    obtain ⟨⟨t, g⟩, hx⟩ : ∃ p, textF f = p := ⟨_, rfl⟩
    rw [hx] at h
    simp only [bne_eq_false_iff_eq] at h
    subst h
    refine ⟨trivial, ?_⟩
    rw [hx]
    have hb : g.bad = f.bad := by
      unfold textF at hx
      split at hx
      · simp only [Prod.mk.injEq] at hx; rw [← hx.2]
      · simp only [Prod.mk.injEq] at hx; exact absurd hx.1.symm hk
    exact (textF_good hx (hb.trans hf)).2
  · rw [hf] at h; simp [hf] at h
theorem ofF_field {f : Fs} {k r : List UInt8} (hf : f.bad = false) (ht : k.length < 9223372036854775808) (h : f.rest = fieldL k ++ r) : ofF k f = ⟨r, false⟩ := by
  unfold ofF
  rw [hf, textF_field ht h]
  simp

end Go.Proofs.YtdilmefeofdkmaaGreatDoor
