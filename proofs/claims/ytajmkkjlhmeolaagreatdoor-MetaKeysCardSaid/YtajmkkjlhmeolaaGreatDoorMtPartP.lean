/-
  A part's record: what is read is what was written (plain).
-/
import Derived.Test.YtajmkkjlhmeolaaGreatDoorMtPartText
namespace Go.Proofs.YtajmkkjlhmeolaaGreatDoor
open Go.RowKit Go.Lib

/-- a part as the chapter says -/
structure PartRight (p : PartV) : Prop where
  num : 1 ≤ p.num ∧ p.num ≤ 20
  size : 0 ≤ p.size ∧ p.size ≤ 9007199254740991
  when_ : 0 ≤ p.when_ ∧ p.when_ ≤ 253402300799
  etag : p.etag.length ≤ 100
  blob : 1 ≤ p.blob ∧ p.blob ≤ 9007199254740991

theorem partL_eq (p : PartV) : partL p = fieldL [80] ++ (numL p.num ++ (numL p.size ++ (numL p.when_ ++ (fieldL p.etag ++ numL p.blob)))) := by simp [partL]

theorem readPart_text {p : PartV} (h : PartRight p) : readPartL (partL p) = some p := by
  obtain ⟨n, z, t, e, b⟩ := p
  obtain ⟨h1, h2, h3, h4, h5⟩ := h
  simp only at h1 h2 h3 h4 h5
  have e1 : rp1 (partL ⟨n, z, t, e, b⟩) = ⟨numL n ++ (numL z ++ (numL t ++ (fieldL e ++ numL b))), false⟩ := ofF_field rfl (by simp) (partL_eq _)
  have e2 : rp2 (partL ⟨n, z, t, e, b⟩) = (n, ⟨numL z ++ (numL t ++ (fieldL e ++ numL b)), false⟩) := by
    unfold rp2; rw [e1]; exact numberF_field (by omega) (by omega) h1 rfl
  have e3 : rp3 (partL ⟨n, z, t, e, b⟩) = (z, ⟨numL t ++ (fieldL e ++ numL b), false⟩) := by
    unfold rp3; rw [e2]; exact numberF_field (by omega) (by omega) h2 rfl
  have e4 : rp4 (partL ⟨n, z, t, e, b⟩) = (t, ⟨fieldL e ++ numL b, false⟩) := by
    unfold rp4; rw [e3]; exact numberF_field (by omega) (by omega) h3 rfl
  have e5 : rp5 (partL ⟨n, z, t, e, b⟩) = (e, ⟨numL b, false⟩) := by
    unfold rp5; rw [e4]; exact shortF_field (by omega) (by omega) rfl
  have e6 : rp6 (partL ⟨n, z, t, e, b⟩) = (b, ⟨[], false⟩) := by
    unfold rp6; rw [e5]; exact numberF_field (by omega) (by omega) h5 (by simp)
  unfold readPartL
  rw [e2, e3, e4, e5, e6]
  rfl

theorem doneF_zero {f : Fs} (h : doneF f = 0) : f.bad = false ∧ f.rest = [] := by
  unfold doneF at h
  split at h
  · cases h
  · rename_i hh
    simp only [Bool.or_eq_true, Bool.not_eq_eq_eq_not, Bool.not_true, not_or, Bool.not_eq_false, Bool.not_eq_true] at hh
    exact ⟨hh.1, by simpa using hh.2⟩

theorem readPart_some {s : List UInt8} {p : PartV} (h : readPartL s = some p) : PartRight p ∧ s = partL p := by
  obtain ⟨f1, h1⟩ : ∃ f, rp1 s = f := ⟨_, rfl⟩
  obtain ⟨⟨n2, f2⟩, h2⟩ : ∃ f, rp2 s = f := ⟨_, rfl⟩
  obtain ⟨⟨n3, f3⟩, h3⟩ : ∃ f, rp3 s = f := ⟨_, rfl⟩
  obtain ⟨⟨n4, f4⟩, h4⟩ : ∃ f, rp4 s = f := ⟨_, rfl⟩
  obtain ⟨⟨n5, f5⟩, h5⟩ : ∃ f, rp5 s = f := ⟨_, rfl⟩
  obtain ⟨⟨n6, f6⟩, h6⟩ : ∃ f, rp6 s = f := ⟨_, rfl⟩
  unfold readPartL at h
  rw [h2, h3, h4, h5, h6] at h
  simp only at h
  unfold rp6 at h6; rw [h5] at h6
  unfold rp5 at h5; rw [h4] at h5
  unfold rp4 at h4; rw [h3] at h4
  unfold rp3 at h3; rw [h2] at h3
  unfold rp2 at h2; rw [h1] at h2
  unfold rp1 at h1
  split at h
  · rename_i hd
    obtain ⟨hb, hr⟩ := doneF_zero hd
    obtain rfl := Option.some.inj h
    obtain ⟨b5, r6, q6⟩ := numberF_good h6 hb
    obtain ⟨b4, r5, q5⟩ := shortF_good h5 b5
    obtain ⟨b3, r4, q4⟩ := numberF_good h4 b4
    obtain ⟨b2, r3, q3⟩ := numberF_good h3 b3
    obtain ⟨b1, r2, q2⟩ := numberF_good h2 b2
    obtain ⟨b0, q1⟩ := ofF_good (f := ⟨s, false⟩) (k := [80]) (by simp) (by rw [h1]; exact b1)
    rw [h1] at q1
    refine ⟨⟨r2, r3, r4, by simp only; omega, r6⟩, ?_⟩
    rw [partL_eq]
    simp only at q1 ⊢
    rw [q1, q2, q3, q4, q5, q6, hr, List.append_nil]
  · cases h

theorem itoa1 (n : Nat) (h : n < 10) : itoa (n : Int) = [(48 + n).toUInt8] := by
  have : n = 0 ∨ n = 1 ∨ n = 2 ∨ n = 3 ∨ n = 4 ∨ n = 5 ∨ n = 6 ∨ n = 7 ∨ n = 8 ∨ n = 9 := by omega
  rcases this with rfl | rfl | rfl | rfl | rfl | rfl | rfl | rfl | rfl | rfl <;> simp [Lib.itoa, Lib.decDigits]

/-- the chapter's own example -/
def exPart : PartV := ⟨1, 3, 0, [120], 9⟩
def exText : List UInt8 := [49, 58, 80, 44, 49, 58, 49, 44, 49, 58, 51, 44, 49, 58, 48, 44, 49, 58, 120, 44, 49, 58, 57, 44]
theorem ex_partL : partL exPart = exText := by
  have i0 := itoa1 0 (by omega)
  have i1 := itoa1 1 (by omega)
  have i3 := itoa1 3 (by omega)
  have i9 := itoa1 9 (by omega)
  simp only [Int.natCast_zero, Int.natCast_one] at i0 i1
  rw [partL_eq]
  unfold exPart numL fieldL
  simp only [List.length_cons, List.length_nil, Nat.zero_add]
  have c3 : ((3 : Nat) : Int) = 3 := rfl
  have c9 : ((9 : Nat) : Int) = 9 := rfl
  rw [c3] at i3
  rw [c9] at i9
  simp only [i0, i1, i3, i9, List.length_cons, List.length_nil, Nat.zero_add, Int.natCast_one]
  rfl
theorem ex_right : PartRight exPart := ⟨by decide, by decide, by decide, by decide, by decide⟩
def exBad : List UInt8 := [49, 58, 80, 44, 50, 58, 48, 49, 44, 49, 58, 51, 44, 49, 58, 48, 44, 49, 58, 120, 44, 49, 58, 57, 44]
theorem ex_bad : readPartL exBad = none := by
  cases h : readPartL exBad with
  | none => rfl
  | some p =>
    exfalso
    obtain ⟨hr, hs⟩ := readPart_some h
    -- what is read begins with the field 'P' and then a numeral that has no nought ahead
    rw [partL_eq] at hs
    have i1 := itoa1 1 (by omega)
    simp only [Int.natCast_one] at i1
    have hf : fieldL [80] = [49, 58, 80, 44] := by
      unfold fieldL
      simp only [List.length_cons, List.length_nil, Nat.zero_add, Int.natCast_one, i1]
      rfl
    rw [hf] at hs
    unfold exBad at hs
    simp only [List.cons_append, List.nil_append, List.cons.injEq, true_and] at hs
    have i2 := itoa1 2 (by omega)
    have hg : fieldL [48, 49] = [50, 58, 48, 49, 44] := by
      unfold fieldL
      show itoa ((2 : Nat) : Int) ++ _ = _
      rw [i2]
      rfl
    have t1 := takeText_field [48, 49] [49, 58, 51, 44, 49, 58, 48, 44, 49, 58, 120, 44, 49, 58, 57, 44] (by simp)
    rw [hg] at t1
    simp only [List.cons_append, List.nil_append] at t1
    rw [hs] at t1
    unfold numL at t1
    obtain ⟨m, hm⟩ := Int.eq_ofNat_of_zero_le (show 0 ≤ p.num by have := hr.num.1; omega)
    have hm20 := hr.num
    rw [hm] at t1 hm20
    rw [takeText_field _ _ (itoa_len (by omega) (by omega))] at t1
    simp only [Option.some.injEq, Prod.mk.injEq] at t1
    have a1 := atoi_itoa m (by omega)
    rw [t1.1] at a1
    have a2 : Lib.atoiAll [48, 49] = .ok 1 := rfl
    rw [a2] at a1
    have hm1 : (m : Int) = 1 := by injection a1 with h; exact h.symm
    have := t1.1
    rw [hm1, i1] at this
    exact absurd this (by decide)

end Go.Proofs.YtajmkkjlhmeolaaGreatDoor
