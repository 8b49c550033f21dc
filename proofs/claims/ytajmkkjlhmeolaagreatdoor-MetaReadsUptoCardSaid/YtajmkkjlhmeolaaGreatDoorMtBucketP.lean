/-
  PLAIN: names of buckets: labels between dots.
-/
import Derived.Test.YtajmkkjlhmeolaaGreatDoorMtPlain
import Derived.Test.YtajmkkjlhmeolaaGreatDoorShelf
import Derived.Lib.SplitLaws
import Derived.Lib.CountLaws
import Derived.Laws.RangeAny
import Derived.Laws.RangeString
import Derived.Lib.Case
namespace Go.Proofs.YtajmkkjlhmeolaaGreatDoor
open Go.Lib

/-- what stands between the dots -/
def labels : List UInt8 → List (List UInt8)
  | [] => [[]]
  | c :: r => if c = 46 then [] :: labels r else match labels r with
    | [] => [[c]]
    | h :: t => (c :: h) :: t
theorem labels_ne (l : List UInt8) : labels l ≠ [] := by
  cases l with
  | nil => simp [labels]
  | cons c r => simp only [labels]; split; simp; split <;> simp
theorem labels_no : ∀ (l : List UInt8), 46 ∉ l → labels l = [l]
  | [], _ => rfl
  | c :: r, h => by
    simp only [List.mem_cons, not_or] at h
    simp only [labels]
    rw [if_neg (fun e => h.1 e.symm), labels_no r h.2]
theorem labels_at : ∀ (a b : List UInt8), 46 ∉ a → labels (a ++ 46 :: b) = a :: labels b
  | [], b, _ => by simp [labels]
  | c :: r, b, h => by
    simp only [List.mem_cons, not_or] at h
    simp only [List.cons_append, labels]
    rw [if_neg (fun e => h.1 e.symm), labels_at r b h.2]
theorem mem_labels : ∀ (l : List UInt8) (c : UInt8), c ∈ l → c = 46 ∨ ∃ x ∈ labels l, c ∈ x
  | [], c, h => by cases h
  | d :: r, c, h => by
    simp only [labels]
    split
    · rename_i hd
      rcases List.mem_cons.1 h with rfl | h
      · exact .inl hd
      · rcases mem_labels r c h with h | ⟨x, hx, hc⟩
        · exact .inl h
        · exact .inr ⟨x, by simp [hx], hc⟩
    · split
      · rename_i hl
        exact absurd hl (labels_ne r)
      · rename_i a t hl
        rcases List.mem_cons.1 h with rfl | h
        · exact .inr ⟨_, List.mem_cons_self .., by simp⟩
        · rcases mem_labels r c h with h | ⟨x, hx, hc⟩
          · exact .inl h
          · rw [hl] at hx
            rcases List.mem_cons.1 hx with rfl | hx
            · exact .inr ⟨_, List.mem_cons_self .., by simp [hc]⟩
            · exact .inr ⟨x, by simp [hx], hc⟩

theorem split_labels : ∀ (k : Nat) (s : ByteArray), s.size ≤ k → splitB ⟨#[46]⟩ 0 (countB s ⟨#[46]⟩) s = (labels s.data.toList).map (fun l => ⟨l.toArray⟩) ∧ countB s ⟨#[46]⟩ + 1 = (labels s.data.toList).length := by
  intro k
  induction k with
  | zero =>
    intro s hs
    have h0 : s.data.toList = [] := List.eq_nil_of_length_eq_zero (by rw [← size_eq]; omega)
    have hm : indexB s ⟨#[46]⟩ = -1 := by show index s.data.toList _ = _; rw [h0]; rfl
    rw [countB_miss _ _ hm, splitB_zero, h0]
    refine ⟨?_, rfl⟩
    simp only [labels, List.map_cons, List.map_nil]
    congr 1
    apply ByteArray.ext
    apply Array.ext'
    rw [h0]
  | succ k ih =>
    intro s hs
    have hix : indexB s ⟨#[46]⟩ = indexByte s.data.toList 46 := index_one s.data.toList 46
    rcases indexByte_cases s.data.toList 46 with ⟨h1, h2⟩ | ⟨i, hi, hlt, h3, h4⟩
    · rw [h1] at hix
      rw [countB_miss _ _ hix, splitB_zero, labels_no _ h2]
      exact ⟨rfl, rfl⟩
    · rw [hi] at hix
      have hd : s.data.toList = s.data.toList.take i ++ 46 :: s.data.toList.drop (i + 1) := by
        conv => lhs; rw [← List.take_append_drop i s.data.toList]
        congr 1
        rw [List.drop_eq_getElem_cons hlt, (List.getElem?_eq_some_iff.1 h3).2]
      have hsz : (⟨#[46]⟩ : ByteArray).size = 1 := rfl
      have he : (s.extract (i + (⟨#[46]⟩ : ByteArray).size) s.size).data.toList = s.data.toList.drop (i + 1) := extract_to_end s (i + 1)
      have hes : (s.extract (i + (⟨#[46]⟩ : ByteArray).size) s.size).size ≤ k := by
        rw [size_eq, he, List.length_drop, ← size_eq]; omega
      obtain ⟨k1, k2⟩ := ih _ hes
      rw [countB_hit s ⟨#[46]⟩ i (by rw [hsz]; exact Nat.le_refl _) hix, Nat.add_comm 1, splitB_hit _ _ _ _ _ hix, k1, he, hd, labels_at _ _ h4]
      rw [he] at k2
      refine ⟨?_, ?_⟩
      · rw [List.map_cons]
        congr 1
        · have := extract_data s 0 i
          rw [List.drop_zero, Nat.sub_zero] at this
          rw [← this]; rfl
        · rw [← hd]
      · rw [List.length_cons, ← k2]

/-- may a byte stand in a label? -/
def okB (c : UInt8) : Bool := decide ((97 ≤ c.toNat ∧ c.toNat ≤ 122) ∨ (48 ≤ c.toNat ∧ c.toNat ≤ 57) ∨ c.toNat = 45)
def labelB (l : List UInt8) : Bool := !l.isEmpty && l.head? != some 45 && l.getLast? != some 45 && l.all okB
def digB (l : List UInt8) : Bool := l.all fun c => decide (48 ≤ c.toNat ∧ c.toNat ≤ 57)
/-- may a text be a bucket's name? -/
def bucketB (s : List UInt8) : Bool := decide (3 ≤ s.length ∧ s.length ≤ 63) && (labels s).all labelB && (decide ((labels s).countP digB < (labels s).length) || (labels s).length != 4)

theorem bucket_bytes {s : List UInt8} (h : bucketB s = true) : (3 ≤ s.length ∧ s.length ≤ 63) ∧ ∀ c ∈ s, okB c = true ∨ c = 46 := by
  unfold bucketB at h
  simp only [Bool.and_eq_true, decide_eq_true_eq, List.all_eq_true] at h
  obtain ⟨⟨h1, h2⟩, _⟩ := h
  refine ⟨h1, fun c hc => ?_⟩
  rcases mem_labels s c hc with h | ⟨x, hx, hcx⟩
  · exact .inr h
  · have := h2 x hx
    unfold labelB at this
    simp only [Bool.and_eq_true, List.all_eq_true] at this
    exact .inl (this.2 c hcx)

/-- is a byte a letter or a digit? -/
def letC (c : Int) : Bool := decide ((97 ≤ c ∧ c ≤ 122) ∨ (65 ≤ c ∧ c ≤ 90) ∨ (48 ≤ c ∧ c ≤ 57))
/-- the characters that may not be -/
def badR (x : Nat) : Bool := decide (126 < x) || (!letC (x : Int) && x != 45)

theorem idx_ascii (s : ByteArray) (ha : ∀ (j : Nat) (h : j < s.size), s[j].toNat < 128) : ∀ (f pos : Nat), s.size ≤ pos + f →
    (0 ≤ idxFuncFrom badR true s f pos ↔ ∃ j, ∃ h : j < s.size, pos ≤ j ∧ badR s[j].toNat = true)
  | 0, pos, h => by simp only [idxFuncFrom]; constructor; (intro h; omega); (rintro ⟨j, hj, h1, _⟩; omega)
  | f + 1, pos, h => by
    unfold idxFuncFrom
    by_cases hp : pos < s.size
    · rw [if_pos hp, decode_ascii s pos hp (ha pos hp)]
      by_cases hb : badR s[pos].toNat = true
      · rw [if_pos hb]
        exact ⟨fun _ => ⟨pos, hp, Nat.le_refl _, hb⟩, fun _ => by omega⟩
      · rw [if_neg hb, idx_ascii s ha f (pos + 1) (by omega)]
        constructor
        · rintro ⟨j, hj, h1, h2⟩; exact ⟨j, hj, by omega, h2⟩
        · rintro ⟨j, hj, h1, h2⟩
          refine ⟨j, hj, ?_, h2⟩
          rcases Nat.eq_or_lt_of_le h1 with h3 | h3
          · subst h3; exact absurd h2 hb
          · omega
    · rw [if_neg hp]
      constructor
      · intro h; omega
      · rintro ⟨j, hj, h1, _⟩; omega

theorem idx_high (s : ByteArray) : ∀ (f pos j : Nat) (hj : j < s.size), pos ≤ j → 128 ≤ s[j].toNat → (∀ (i : Nat) (h : i < s.size), pos ≤ i → i < j → s[i].toNat < 128) → s.size ≤ pos + f → 0 ≤ idxFuncFrom badR true s f pos
  | 0, pos, j, hj, h1, _, _, h => by omega
  | f + 1, pos, j, hj, h1, h2, h3, h => by
    unfold idxFuncFrom
    rw [if_pos (by omega)]
    by_cases hpj : pos = j
    · subst hpj
      have := (decode_high s pos hj h2).1
      rw [if_pos (by unfold badR; rw [decide_eq_true (by omega)]; rfl)]
      omega
    · have hp : pos < s.size := by omega
      rw [decode_ascii s pos hp (h3 pos hp (Nat.le_refl _) (by omega))]
      split
      · omega
      · exact idx_high s f (pos + 1) j hj (by omega) h2 (fun i hi h4 h5 => h3 i hi (by omega) h5) (by omega)

theorem isUpper_eq (c : UInt8) : isUpperB c = decide (65 ≤ c.toNat ∧ c.toNat ≤ 90) := by
  unfold isUpperB
  rw [Bool.eq_iff_iff]
  simp [UInt8.le_iff_toNat_le]
theorem lower_keep {c : UInt8} (h : ¬ (65 ≤ c.toNat ∧ c.toNat ≤ 90)) : lowerB c = c := by
  unfold lowerB
  rw [isUpper_eq, decide_eq_false h]
  rfl
theorem lower_turns {c : UInt8} (h : 65 ≤ c.toNat ∧ c.toNat ≤ 90) : lowerB c ≠ c := by
  unfold lowerB
  rw [isUpper_eq, decide_eq_true h, if_pos rfl]
  intro e
  have := congrArg UInt8.toNat e
  rw [UInt8.toNat_add] at this
  have h32 : (32 : UInt8).toNat = 32 := rfl
  omega

theorem map_fix {f : UInt8 → UInt8} : ∀ (l : List UInt8), l.map f = l → ∀ c ∈ l, f c = c
  | [], _, c, h => by cases h
  | d :: r, e, c, h => by
    simp only [List.map_cons, List.cons.injEq] at e
    rcases List.mem_cons.1 h with rfl | h
    · exact e.1
    · exact map_fix r e.2 c h
theorem fix_map {f : UInt8 → UInt8} : ∀ (l : List UInt8), (∀ c ∈ l, f c = c) → l.map f = l
  | [], _ => rfl
  | d :: r, h => by rw [List.map_cons, h d (by simp), fix_map r (fun c hc => h c (by simp [hc]))]

/-- small letters, digits and hyphens alone: just where nothing turns and no character is bad -/
theorem ok_iff (l : List UInt8) (ha : ∀ c ∈ l, c.toNat < 128) : (l.all okB = true) ↔ (toLowerA l = l ∧ ∀ c ∈ l, badR c.toNat = false) := by
  rw [List.all_eq_true]
  constructor
  · intro h
    refine ⟨fix_map l (fun c hc => lower_keep ?_), fun c hc => ?_⟩
    · have := of_decide_eq_true (h c hc); omega
    · have := of_decide_eq_true (h c hc)
      unfold badR letC
      rw [decide_eq_false (by omega)]
      by_cases h45 : c.toNat = 45
      · rw [h45]; rfl
      · rw [decide_eq_true (by omega)]; rfl
  · rintro ⟨h1, h2⟩ c hc
    have h3 := map_fix l h1 c hc
    have h4 : ¬ (65 ≤ c.toNat ∧ c.toNat ≤ 90) := fun h => lower_turns h h3
    have h5 := h2 c hc
    unfold badR letC at h5
    simp only [Bool.or_eq_false_iff, Bool.and_eq_false_iff, Bool.not_eq_false', decide_eq_false_iff_not, decide_eq_true_eq, bne_eq_false_iff_eq] at h5
    exact decide_eq_true (by omega)

/-- what the two tests say of a label -/
theorem label_ascii (l : List UInt8) (ha : ∀ c ∈ l, c.toNat < 128) : (toLowerA l != l || decide (0 ≤ idxFunc badR true ⟨l.toArray⟩)) = !(l.all okB) := by
  have hsz : (⟨l.toArray⟩ : ByteArray).size = l.length := by simp [ByteArray.size]
  have hget : ∀ (j : Nat) (h : j < (⟨l.toArray⟩ : ByteArray).size), (⟨l.toArray⟩ : ByteArray)[j] = l[j]'(by omega) := fun j h => by simp [ByteArray.getElem_eq_getElem_data]
  have hidx : (0 ≤ idxFunc badR true ⟨l.toArray⟩) ↔ ∃ c ∈ l, badR c.toNat = true := by
    unfold idxFunc
    rw [idx_ascii _ (fun j h => by rw [hget j h]; exact ha _ (List.getElem_mem _)) _ 0 (by omega)]
    constructor
    · rintro ⟨j, hj, _, hb⟩
      rw [hget j hj] at hb
      exact ⟨_, List.getElem_mem _, hb⟩
    · rintro ⟨c, hc, hb⟩
      obtain ⟨j, hj, rfl⟩ := List.getElem_of_mem hc
      exact ⟨j, by omega, by omega, by rw [hget j (by omega)]; exact hb⟩
  have := ok_iff l ha
  cases hA : l.all okB
  · rw [hA] at this
    simp only [Bool.false_eq_true, false_iff, not_and] at this
    by_cases h1 : toLowerA l = l
    · have h2 := this h1
      have h3 : ∃ c ∈ l, badR c.toNat = true := by
        apply Classical.byContradiction
        intro hn
        exact h2 (fun c hc => by cases hb : badR c.toNat; rfl; exact absurd ⟨c, hc, hb⟩ hn)
      rw [decide_eq_true (hidx.2 h3)]; simp
    · rw [show (toLowerA l != l) = true from by simpa using h1]; rfl
  · obtain ⟨h1, h2⟩ := this.1 hA
    rw [h1, decide_eq_false (fun h => by obtain ⟨c, hc, hb⟩ := hidx.1 h; rw [h2 c hc] at hb; cases hb)]
    simp
theorem label_high (l : List UInt8) (h : ¬ ∀ c ∈ l, c.toNat < 128) : 0 ≤ idxFunc badR true ⟨l.toArray⟩ ∧ l.all okB = false := by
  have hsz : (⟨l.toArray⟩ : ByteArray).size = l.length := by simp [ByteArray.size]
  have hget : ∀ (j : Nat) (h : j < (⟨l.toArray⟩ : ByteArray).size), (⟨l.toArray⟩ : ByteArray)[j] = l[j]'(by omega) := fun j h => by simp [ByteArray.getElem_eq_getElem_data]
  have hfirst : ∀ (l : List UInt8), (¬ ∀ c ∈ l, c.toNat < 128) → ∃ j, ∃ hj : j < l.length, 128 ≤ l[j].toNat ∧ ∀ (i : Nat) (h : i < l.length), i < j → l[i].toNat < 128 := by
    intro l
    induction l with
    | nil => intro h; exact absurd (fun c hc => by cases hc) h
    | cons d r ih =>
      intro h
      by_cases hd : d.toNat < 128
      · obtain ⟨j, hj, h1, h2⟩ := ih (fun h3 => h (fun c hc => by rcases List.mem_cons.1 hc with rfl | hc; exact hd; exact h3 c hc))
        refine ⟨j + 1, by simp; omega, by simpa using h1, fun i hi hij => ?_⟩
        cases i with
        | zero => simpa using hd
        | succ i => simpa using h2 i (by simpa using hi) (by omega)
      · exact ⟨0, by simp, by simp; omega, fun i _ hi => by omega⟩
  obtain ⟨j, hj, h1, h2⟩ := hfirst l h
  refine ⟨?_, ?_⟩
  · unfold idxFunc
    exact idx_high _ _ 0 j (by omega) (by omega) (by rw [hget]; exact h1) (fun i hi _ hij => by rw [hget]; exact h2 i (by omega) hij) (by omega)
  · rw [← Bool.not_eq_true, List.all_eq_true]
    intro h3
    have := of_decide_eq_true (h3 _ (List.getElem_mem hj))
    omega

end Go.Proofs.YtajmkkjlhmeolaaGreatDoor
