/-
  What the reference reads of a record, case by case (plain).
-/
import Derived.Test.YtajmkkjlhmeolaaGreatDoorMfRef
namespace Go.Proofs.YtajmkkjlhmeolaaGreatDoor
open Go.RowKit Go.Lib

theorem rPart_none {s : List UInt8} (h : fieldsL s = none) : readPartL s = none := by
  rw [← rPartOf_eq]
  unfold rPartOf
  rw [h]
theorem rPart_yes {s : List UInt8} {l : List (List UInt8)} (h : fieldsL s = some l) (h1 : l.length = 6) (h2 : PartRight (rPartC l)) (h3 : partL (rPartC l) = s) : readPartL s = some (rPartC l) := by
  rw [← rPartOf_eq]
  unfold rPartOf
  rw [h]
  simp only
  rw [if_pos ⟨h1, h2, h3⟩]
theorem rPart_no {s : List UInt8} {l : List (List UInt8)} (h : fieldsL s = some l) (hn : ¬ (l.length = 6 ∧ PartRight (rPartC l) ∧ partL (rPartC l) = s)) : readPartL s = none := by
  rw [← rPartOf_eq]
  unfold rPartOf
  rw [h]
  simp only
  rw [if_neg hn]

theorem rUp_none {s : List UInt8} (h : fieldsL s = none) : readUpL s = none := by
  rw [← rUpOf_eq]
  unfold rUpOf
  rw [h]
theorem rUp_yes {s : List UInt8} {l : List (List UInt8)} (h : fieldsL s = some l) (h1 : l.length = 7) (h2 : UpRight (rUpC l)) (h3 : upL (rUpC l) = s) : readUpL s = some (rUpC l) := by
  rw [← rUpOf_eq]
  unfold rUpOf
  rw [h]
  simp only
  rw [if_pos ⟨h1, h2, h3⟩]
theorem rUp_no {s : List UInt8} {l : List (List UInt8)} (h : fieldsL s = some l) (hn : ¬ (l.length = 7 ∧ UpRight (rUpC l) ∧ upL (rUpC l) = s)) : readUpL s = none := by
  rw [← rUpOf_eq]
  unfold rUpOf
  rw [h]
  simp only
  rw [if_neg hn]

theorem rVer_none {s : List UInt8} (h : fieldsL s = none) : readVerL s = none := by
  rw [← rVerOf_eq]
  unfold rVerOf
  rw [h]
theorem rVer_yes {s : List UInt8} {l : List (List UInt8)} (h : fieldsL s = some l) (h1 : 9 ≤ l.length) (h2 : VerRight (rVerC l)) (h3 : verL (rVerC l) = s) : readVerL s = some (rVerC l) := by
  rw [← rVerOf_eq]
  unfold rVerOf
  rw [h]
  simp only
  rw [if_pos ⟨h1, h2, h3⟩]
theorem rVer_no {s : List UInt8} {l : List (List UInt8)} (h : fieldsL s = some l) (hn : ¬ (9 ≤ l.length ∧ VerRight (rVerC l) ∧ verL (rVerC l) = s)) : readVerL s = none := by
  rw [← rVerOf_eq]
  unfold rVerOf
  rw [h]
  simp only
  rw [if_neg hn]

theorem rBk_none {s : List UInt8} (h : fieldsL s = none) : readBkL s = none := by
  rw [← rBkOf_eq]
  unfold rBkOf
  rw [h]
theorem rBk_yes {s : List UInt8} {l : List (List UInt8)} (h : fieldsL s = some l) (h1 : 7 ≤ l.length) (h2 : BkRight (rBkC l)) (h3 : bkL (rBkC l) = s) : readBkL s = some (rBkC l) := by
  rw [← rBkOf_eq]
  unfold rBkOf
  rw [h]
  simp only
  rw [if_pos ⟨h1, h2, h3⟩]
theorem rBk_no {s : List UInt8} {l : List (List UInt8)} (h : fieldsL s = some l) (hn : ¬ (7 ≤ l.length ∧ BkRight (rBkC l) ∧ bkL (rBkC l) = s)) : readBkL s = none := by
  rw [← rBkOf_eq]
  unfold rBkOf
  rw [h]
  simp only
  rw [if_neg hn]

theorem rTake_part {l t r : List UInt8} (h : rTake l = some (t, r)) : t.length ≤ l.length := by
  unfold rTake at h
  split at h
  · simp only [Option.some.injEq, Prod.mk.injEq] at h
    obtain ⟨rfl, _⟩ := h
    have := (cut1_len l 58).2
    rw [List.length_take]
    omega
  · cases h
theorem rFields_mem : ∀ (k : Nat) (s : List UInt8) (l : List (List UInt8)), rFields k s = some l → ∀ t ∈ l, t.length ≤ s.length
  | 0, s, l, h, t, ht => by
    unfold rFields at h
    split at h
    · obtain rfl := Option.some.inj h; cases ht
    · cases h
  | k + 1, s, l, h, t, ht => by
    unfold rFields at h
    split at h
    · obtain rfl := Option.some.inj h; cases ht
    · split at h
      · rename_i a r har
        cases hr : rFields k r with
        | none => rw [hr] at h; cases h
        | some m =>
          rw [hr] at h
          obtain rfl := Option.some.inj h
          rcases List.mem_cons.1 ht with rfl | ht
          · exact rTake_part har
          · have := rFields_mem k r m hr t ht
            have := rTake_len har
            omega
      · cases h
/-- a field is no longer than the text -/
theorem fieldsL_mem {s : List UInt8} {l : List (List UInt8)} (h : fieldsL s = some l) : ∀ t ∈ l, t.length ≤ s.length := rFields_mem _ _ _ h

end Go.Proofs.YtajmkkjlhmeolaaGreatDoor
