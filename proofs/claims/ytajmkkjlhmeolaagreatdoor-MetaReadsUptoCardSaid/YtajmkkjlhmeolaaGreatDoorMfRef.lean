/-
  storehouseref19: fields of a record, and what is read of them (plain): the same as what the program reads.
-/
import Derived.Test.YtajmkkjlhmeolaaGreatDoorMtUpP
import Derived.Lib.ItoaNum
namespace Go.Proofs.YtajmkkjlhmeolaaGreatDoor
open Go.RowKit Go.Lib

theorem nDigits_le : ∀ (k u : Nat), u < 10 ^ (k + 1) → nDigits u ≤ k + 1
  | 0, u, h => by rw [nDigits_small (by simpa using h)]; exact Nat.le_refl _
  | k + 1, u, h => by
    by_cases hu : u < 10
    · rw [nDigits_small hu]; omega
    · rw [nDigits_big hu]
      have := nDigits_le k (u / 10) (by rw [Nat.pow_succ] at h; omega)
      omega
theorem valueL_itoa {n : Int} (h : 0 ≤ n ∧ n < 10000000000000000) : valueL (itoa n) = n := by
  obtain ⟨m, rfl⟩ := Int.eq_ofNat_of_zero_le h.1
  rw [itoa_nonneg]
  have hd := digs_decDigits m
  have hne := decDigits_ne m
  have hh := decDigits_head m
  have hl : (decDigits m).length ≤ 16 := by
    rw [decDigits_length]
    exact nDigits_le 15 m (by have : (10 : Nat) ^ (15 + 1) = 10000000000000000 := by decide
                              omega)
  unfold valueL
  rw [if_neg, hd]
  rintro (h1 | h1 | ⟨h1, h2⟩)
  · exact hne h1
  · omega
  · rcases hh with h3 | h3
    · omega
    · exact h3 h2

/-- a field as the reference takes it -/
def rTake (l : List UInt8) : Option (List UInt8 × List UInt8) :=
  if 0 ≤ valueL (cut1 l 58).1 ∧ (cut1 l 58).2.2 = true ∧ valueL (cut1 l 58).1 < (cut1 l 58).2.1.length ∧ (cut1 l 58).2.1[(valueL (cut1 l 58).1).toNat]? = some 44 then
    some ((cut1 l 58).2.1.take (valueL (cut1 l 58).1).toNat, (cut1 l 58).2.1.drop ((valueL (cut1 l 58).1).toNat + 1)) else none
theorem rTake_field {t r : List UInt8} (ht : t.length < 10000000000000000) : rTake (fieldL t ++ r) = some (t, r) := by
  have hc : cut1 (fieldL t ++ r) 58 = (itoa (t.length : Int), t ++ 44 :: r, true) := by
    have : fieldL t ++ r = itoa (t.length : Int) ++ 58 :: (t ++ 44 :: r) := by unfold fieldL; simp
    rw [this]
    apply cut1_at
    intro h
    rw [itoa_nonneg] at h
    have := decDigits_digit _ _ h
    have h58 : (58 : UInt8).toNat = 58 := rfl
    omega
  unfold rTake
  rw [hc, valueL_itoa (by omega)]
  simp only [Int.toNat_natCast]
  rw [if_pos ⟨by omega, trivial, by simp; omega, by simp⟩]
  simp
theorem rTake_len {l t r : List UInt8} (h : rTake l = some (t, r)) : r.length < l.length := by
  unfold rTake at h
  split at h
  · rename_i hh
    obtain ⟨h1, h2, h3, h4⟩ := hh
    simp only [Option.some.injEq, Prod.mk.injEq] at h
    obtain ⟨_, rfl⟩ := h
    have := (cut1_len l 58).2
    rw [List.length_drop]
    omega
  · cases h
def rFields : Nat → List UInt8 → Option (List (List UInt8))
  | 0, l => if l = [] then some [] else none
  | k + 1, l => if l = [] then some [] else match rTake l with
    | some (t, r) => (rFields k r).map (t :: ·)
    | none => none
theorem rFields_more : ∀ (k j : Nat) (l : List UInt8), l.length ≤ k → k ≤ j → rFields j l = rFields k l
  | 0, j, l, h, _ => by
    have : l = [] := List.eq_nil_of_length_eq_zero (by omega)
    subst this
    cases j <;> simp [rFields]
  | k + 1, j, l, h, hj => by
    obtain ⟨j, rfl⟩ : ∃ i, j = i + 1 := ⟨j - 1, by omega⟩
    unfold rFields
    split
    · rfl
    · split
      · rename_i t r ht
        rw [rFields_more k j r (by have := rTake_len ht; omega) (by omega)]
      · rfl
/-- the fields of a record -/
def fieldsL (l : List UInt8) : Option (List (List UInt8)) := rFields l.length l
theorem fieldsL_nil : fieldsL [] = some [] := rfl
theorem fieldL_pos (t : List UInt8) : 0 < (fieldL t).length := by unfold fieldL; simp; omega
theorem fieldsL_step (l : List UInt8) (h : l ≠ []) : fieldsL l = match rTake l with
    | some (t, r) => (fieldsL r).map (t :: ·)
    | none => none := by
  obtain ⟨k, hk⟩ : ∃ k, l.length = k + 1 := ⟨l.length - 1, by have := List.length_pos_iff.2 h; omega⟩
  have e : rFields (k + 1) l = if l = [] then some [] else match rTake l with
    | some (t, r) => (rFields k r).map (t :: ·)
    | none => none := rfl
  unfold fieldsL
  rw [hk, e, if_neg h]
  split
  · rename_i t r ht
    rw [rFields_more r.length k r (Nat.le_refl _) (by have := rTake_len ht; omega)]
  · rfl
theorem fieldsL_field {t r : List UInt8} (ht : t.length < 10000000000000000) : fieldsL (fieldL t ++ r) = (fieldsL r).map (t :: ·) := by
  rw [fieldsL_step _ (by intro h; have := fieldL_pos t; rw [List.append_eq_nil_iff] at h; rw [h.1] at this; simp at this), rTake_field ht]
theorem fieldsL_all : ∀ (F : List (List UInt8)), (∀ t ∈ F, t.length < 10000000000000000) → fieldsL (F.flatMap fieldL) = some F
  | [], _ => rfl
  | t :: F, h => by
    rw [List.flatMap_cons, fieldsL_field (h t (by simp)), fieldsL_all F (fun x hx => h x (by simp [hx]))]
    rfl

theorem itoa_short {n : Int} (h0 : -9223372036854775808 ≤ n) (h1 : n ≤ 9223372036854775807) : (itoa n).length < 10000000000000000 := by
  have := itoa_length_le n h0 h1
  omega
theorem itoa_flag (b : Bool) : itoa (flagN b) = if b then [49] else [48] := by
  cases b
  · exact itoa1 0 (by omega)
  · exact itoa1 1 (by omega)
theorem flag_of (b : Bool) : (itoa (flagN b) == [49]) = b := by rw [itoa_flag]; cases b <;> rfl

/-- what the reference reads of a part's record -/
def rPartC (l : List (List UInt8)) : PartV := ⟨valueL (l.getD 1 []), valueL (l.getD 2 []), valueL (l.getD 3 []), l.getD 4 [], valueL (l.getD 5 [])⟩
open Classical in
noncomputable def rPartOf (s : List UInt8) : Option PartV := match fieldsL s with
  | some l => if l.length = 6 ∧ PartRight (rPartC l) ∧ partL (rPartC l) = s then some (rPartC l) else none
  | none => none
theorem rPartOf_eq (s : List UInt8) : rPartOf s = readPartL s := by
  unfold rPartOf
  cases h : readPartL s with
  | some p =>
    obtain ⟨hr, rfl⟩ := readPart_some h
    have hf : fieldsL (partL p) = some [[80], itoa p.num, itoa p.size, itoa p.when_, p.etag, itoa p.blob] := by
      have := fieldsL_all [[80], itoa p.num, itoa p.size, itoa p.when_, p.etag, itoa p.blob] (by
        intro t ht
        simp only [List.mem_cons, List.not_mem_nil, or_false] at ht
        have h1 := hr.num; have h2 := hr.size; have h3 := hr.when_; have h4 := hr.etag; have h5 := hr.blob
        rcases ht with rfl | rfl | rfl | rfl | rfl | rfl
        · simp
        · exact itoa_short (by omega) (by omega)
        · exact itoa_short (by omega) (by omega)
        · exact itoa_short (by omega) (by omega)
        · omega
        · exact itoa_short (by omega) (by omega))
      rw [← this, partL_eq]
      simp [numL]
    have hc : rPartC [[80], itoa p.num, itoa p.size, itoa p.when_, p.etag, itoa p.blob] = p := by
      have h1 := hr.num; have h2 := hr.size; have h3 := hr.when_; have h5 := hr.blob
      show PartV.mk (valueL (itoa p.num)) (valueL (itoa p.size)) (valueL (itoa p.when_)) p.etag (valueL (itoa p.blob)) = p
      rw [valueL_itoa (by omega), valueL_itoa (by omega), valueL_itoa (by omega), valueL_itoa (by omega)]
    rw [hf]
    simp only
    rw [hc, if_pos ⟨rfl, hr, rfl⟩]
  | none =>
    split
    · rename_i l hl
      split
      · rename_i hh
        obtain ⟨_, hr, hs⟩ := hh
        have := readPart_text hr
        rw [hs, h] at this
        cases this
      · rfl
    · rfl

/-- of an upload's -/
def rUpC (l : List (List UInt8)) : UpV := ⟨valueL (l.getD 1 []), l.getD 2 [], l.getD 3 [], l.getD 4 [], l.getD 5 [], valueL (l.getD 6 [])⟩
open Classical in
noncomputable def rUpOf (s : List UInt8) : Option UpV := match fieldsL s with
  | some l => if l.length = 7 ∧ UpRight (rUpC l) ∧ upL (rUpC l) = s then some (rUpC l) else none
  | none => none
theorem rUpOf_eq (s : List UInt8) : rUpOf s = readUpL s := by
  unfold rUpOf
  cases h : readUpL s with
  | some p =>
    obtain ⟨hr, rfl⟩ := readUp_some h
    have h1 := hr.seq; have h2 := (bucket_bytes hr.bucket).1; have h3 := hr.key; have h4 := hr.type; have h5 := hr.owner; have h6 := hr.when_
    have hf : fieldsL (upL p) = some [[85], itoa p.seq, p.bucket, p.key, p.type, p.owner, itoa p.when_] := by
      have := fieldsL_all [[85], itoa p.seq, p.bucket, p.key, p.type, p.owner, itoa p.when_] (by
        intro t ht
        simp only [List.mem_cons, List.not_mem_nil, or_false] at ht
        rcases ht with rfl | rfl | rfl | rfl | rfl | rfl | rfl
        · simp
        · exact itoa_short (by omega) (by omega)
        · omega
        · omega
        · omega
        · omega
        · exact itoa_short (by omega) (by omega))
      rw [← this]
      simp [numL, upL]
    have hc : rUpC [[85], itoa p.seq, p.bucket, p.key, p.type, p.owner, itoa p.when_] = p := by
      show UpV.mk (valueL (itoa p.seq)) p.bucket p.key p.type p.owner (valueL (itoa p.when_)) = p
      rw [valueL_itoa (by omega), valueL_itoa (by omega)]
    rw [hf]
    simp only
    rw [hc, if_pos ⟨rfl, hr, rfl⟩]
  | none =>
    split
    · rename_i l hl
      split
      · rename_i hh
        obtain ⟨_, hr, hs⟩ := hh
        have := readUp_text hr
        rw [hs, h] at this
        cases this
      · rfl
    · rfl

/-- of a version's -/
def rVerC (l : List (List UInt8)) : VerV := ⟨valueL (l.getD 1 []), l.getD 2 [] == [49], l.getD 3 [] == [49], l.getD 4 [], l.getD 5 [], valueL (l.getD 6 []), valueL (l.getD 7 []), (l.drop 9).map valueL⟩
open Classical in
noncomputable def rVerOf (s : List UInt8) : Option VerV := match fieldsL s with
  | some l => if 9 ≤ l.length ∧ VerRight (rVerC l) ∧ verL (rVerC l) = s then some (rVerC l) else none
  | none => none
theorem rVerOf_eq (s : List UInt8) : rVerOf s = readVerL s := by
  unfold rVerOf
  cases h : readVerL s with
  | some p =>
    obtain ⟨hr, rfl⟩ := readVer_some h
    have h1 := hr.seq; have h2 := hr.etag; have h3 := hr.type; have h4 := hr.size; have h5 := hr.when_; have h6 := hr.len; have h7 := hr.blobs
    have hf : fieldsL (verL p) = some ([[86], itoa p.seq, itoa (flagN p.null), itoa (flagN p.marker), p.etag, p.type, itoa p.size, itoa p.when_, itoa (p.blobs.length : Int)] ++ p.blobs.map itoa) := by
      have := fieldsL_all ([[86], itoa p.seq, itoa (flagN p.null), itoa (flagN p.marker), p.etag, p.type, itoa p.size, itoa p.when_, itoa (p.blobs.length : Int)] ++ p.blobs.map itoa) (by
        intro t ht
        rcases List.mem_append.1 ht with ht | ht
        · simp only [List.mem_cons, List.not_mem_nil, or_false] at ht
          rcases ht with rfl | rfl | rfl | rfl | rfl | rfl | rfl | rfl | rfl
          · simp
          · exact itoa_short (by omega) (by omega)
          · rw [itoa_flag]; split <;> simp
          · rw [itoa_flag]; split <;> simp
          · omega
          · omega
          · exact itoa_short (by omega) (by omega)
          · exact itoa_short (by omega) (by omega)
          · exact itoa_short (by omega) (by omega)
        · simp only [List.mem_map] at ht
          obtain ⟨x, hx, rfl⟩ := ht
          have := h7 x hx
          exact itoa_short (by omega) (by omega))
      rw [← this]
      have e : (p.blobs.map itoa).flatMap fieldL = p.blobs.flatMap numL := by rw [List.flatMap_map]; rfl
      rw [List.flatMap_append, e]
      simp [numL, verL]
    have hc : rVerC ([[86], itoa p.seq, itoa (flagN p.null), itoa (flagN p.marker), p.etag, p.type, itoa p.size, itoa p.when_, itoa (p.blobs.length : Int)] ++ p.blobs.map itoa) = p := by
      show VerV.mk (valueL (itoa p.seq)) (itoa (flagN p.null) == [49]) (itoa (flagN p.marker) == [49]) p.etag p.type (valueL (itoa p.size)) (valueL (itoa p.when_)) ((p.blobs.map itoa).map valueL) = p
      have hb : (p.blobs.map itoa).map valueL = p.blobs := by
        rw [List.map_map]
        conv => rhs; rw [← List.map_id p.blobs]
        apply List.map_congr_left
        intro x hx
        have := h7 x hx
        exact valueL_itoa (by omega)
      rw [valueL_itoa (by omega), valueL_itoa (by omega), valueL_itoa (by omega), flag_of, flag_of, hb]
    rw [hf]
    simp only
    rw [hc, if_pos ⟨by simp, hr, rfl⟩]
  | none =>
    split
    · rename_i l hl
      split
      · rename_i hh
        obtain ⟨_, hr, hs⟩ := hh
        have := readVer_text hr
        rw [hs, h] at this
        cases this
      · rfl
    · rfl

/-- of a bucket's -/
def rlGroups : List (List UInt8) → List RlV
  | a :: b :: c :: d :: e :: f :: r => ⟨a, b, c == [49], valueL d, valueL e, valueL f⟩ :: rlGroups r
  | _ => []
def rBkC (l : List (List UInt8)) : BkV := ⟨l.getD 1 [], l.getD 2 [], l.getD 5 [], valueL (l.getD 3 []), valueL (l.getD 4 []), rlGroups (l.drop 7)⟩
open Classical in
noncomputable def rBkOf (s : List UInt8) : Option BkV := match fieldsL s with
  | some l => if 7 ≤ l.length ∧ BkRight (rBkC l) ∧ bkL (rBkC l) = s then some (rBkC l) else none
  | none => none
def rlFields (r : RlV) : List (List UInt8) := [r.id, r.pre, itoa (flagN r.on), itoa r.days, itoa r.nonc, itoa r.abort]
theorem rlGroups_of : ∀ (l : List RlV), (∀ r ∈ l, RlRight r) → rlGroups (l.flatMap rlFields) = l
  | [], _ => rfl
  | r :: l, h => by
    have hr := h r (by simp)
    have h3 := hr.days; have h4 := hr.nonc; have h5 := hr.abort
    have ih := rlGroups_of l (fun x hx => h x (by simp [hx]))
    show RlV.mk r.id r.pre (itoa (flagN r.on) == [49]) (valueL (itoa r.days)) (valueL (itoa r.nonc)) (valueL (itoa r.abort)) :: rlGroups (l.flatMap rlFields) = _
    rw [ih, flag_of, valueL_itoa (by omega), valueL_itoa (by omega), valueL_itoa (by omega)]
theorem rlFields_short {r : RlV} (hr : RlRight r) : ∀ t ∈ rlFields r, t.length < 10000000000000000 := by
  have h1 := hr.id; have h2 := hr.pre; have h3 := hr.days; have h4 := hr.nonc; have h5 := hr.abort
  intro t ht
  simp only [rlFields, List.mem_cons, List.not_mem_nil, or_false] at ht
  rcases ht with rfl | rfl | rfl | rfl | rfl | rfl
  · omega
  · omega
  · rw [itoa_flag]; split <;> simp
  · exact itoa_short (by omega) (by omega)
  · exact itoa_short (by omega) (by omega)
  · exact itoa_short (by omega) (by omega)
theorem rBkOf_eq (s : List UInt8) : rBkOf s = readBkL s := by
  unfold rBkOf
  cases h : readBkL s with
  | some p =>
    obtain ⟨hr, rfl⟩ := readBk_some h
    have h1 := (bucket_bytes hr.name).1; have h2 := hr.owner; have h3 := hr.policy; have h4 := hr.when_; have h5 := hr.mode; have h6 := hr.len; have h7 := hr.rules
    have hf : fieldsL (bkL p) = some ([[66], p.name, p.owner, itoa p.when_, itoa p.mode, p.policy, itoa (p.rules.length : Int)] ++ p.rules.flatMap rlFields) := by
      have := fieldsL_all ([[66], p.name, p.owner, itoa p.when_, itoa p.mode, p.policy, itoa (p.rules.length : Int)] ++ p.rules.flatMap rlFields) (by
        intro t ht
        rcases List.mem_append.1 ht with ht | ht
        · simp only [List.mem_cons, List.not_mem_nil, or_false] at ht
          rcases ht with rfl | rfl | rfl | rfl | rfl | rfl | rfl
          · simp
          · omega
          · omega
          · exact itoa_short (by omega) (by omega)
          · exact itoa_short (by omega) (by omega)
          · omega
          · exact itoa_short (by omega) (by omega)
        · simp only [List.mem_flatMap] at ht
          obtain ⟨x, hx, ht⟩ := ht
          exact rlFields_short (h7 x hx) t ht)
      rw [← this]
      have e : ∀ l : List RlV, l.flatMap rlL = (l.flatMap rlFields).flatMap fieldL := by
        intro l
        induction l with
        | nil => rfl
        | cons r l ih => simp [ih, rlFields, rlL, numL]
      simp [numL, bkL, e]
    have hc : rBkC ([[66], p.name, p.owner, itoa p.when_, itoa p.mode, p.policy, itoa (p.rules.length : Int)] ++ p.rules.flatMap rlFields) = p := by
      show BkV.mk p.name p.owner p.policy (valueL (itoa p.when_)) (valueL (itoa p.mode)) (rlGroups (p.rules.flatMap rlFields)) = p
      rw [valueL_itoa (by omega), valueL_itoa (by omega), rlGroups_of _ h7]
    rw [hf]
    simp only
    rw [hc, if_pos ⟨by simp, hr, rfl⟩]
  | none =>
    split
    · rename_i l hl
      split
      · rename_i hh
        obtain ⟨_, hr, hs⟩ := hh
        have := readBk_text hr
        rw [hs, h] at this
        cases this
      · rfl
    · rfl

end Go.Proofs.YtajmkkjlhmeolaaGreatDoor
