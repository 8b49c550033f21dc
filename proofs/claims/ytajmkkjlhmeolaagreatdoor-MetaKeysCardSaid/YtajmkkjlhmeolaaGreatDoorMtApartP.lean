/-
  Keys apart: what a version's key is read as (plain).
-/
import Derived.Test.YtajmkkjlhmeolaaGreatDoorMtPlaceEq
import Derived.Test.YtajmkkjlhmeolaaGreatDoorMtReadKey
namespace Go.Proofs.YtajmkkjlhmeolaaGreatDoor
open Go.RowKit Go.Lib

theorem slash_hex {c : UInt8} (h : hexLow c = true) : c ≠ 47 := by
  have h' := of_decide_eq_true h
  intro e
  subst e
  have : (47 : UInt8).toNat = 47 := rfl
  omega
theorem slash_bucket {b : List UInt8} (h : bucketB b = true) : 47 ∉ b := by
  intro hm
  rcases (bucket_bytes h).2 47 hm with h | h
  · have h' := of_decide_eq_true h
    have : (47 : UInt8).toNat = 47 := rfl
    omega
  · cases h
structure VerOK (b k : List UInt8) (n : Int) : Prop where
  b : bucketB b = true
  k : 1 ≤ k.length ∧ k.length ≤ 100
  n : 1 ≤ n ∧ n ≤ 9007199254740991
theorem version_ok {b k : List UInt8} {n : Int} (h : versionKeyL b k n ≠ []) : VerOK b k n := by
  unfold versionKeyL at h
  split at h
  · rename_i h1
    unfold keyL at h
    split at h
    · rename_i h2
      exact ⟨h1.1, h1.2, h2⟩
    · exact absurd rfl h
  · exact absurd rfl h
theorem version_eq {b k : List UInt8} {n : Int} (h : VerOK b k n) : versionKeyL b k n = [118] ++ 47 :: ((b ++ 47 :: k) ++ 47 :: numText n) := by
  unfold versionKeyL
  rw [if_pos ⟨h.b, h.k⟩]
  unfold keyL
  rw [if_pos h.n]
  simp
theorem version_place {b k : List UInt8} {n : Int} (h : VerOK b k n) : placeOf (versionKeyL b k n) = some ⟨118, b, k, n, 0⟩ := by
  have e := version_eq h
  have c1 : cut1 (versionKeyL b k n) 47 = ([118], (b ++ 47 :: k) ++ 47 :: numText n, true) := by rw [e]; exact cut1_at (by decide)
  have hn : 47 ∉ numText n := fun hm => slash_hex ((numText_in ⟨by have := h.n; omega, h.n.2⟩).2.1 47 hm) rfl
  have c2 : cut1 (b ++ 47 :: k) 47 = (b, k, true) := cut1_at (slash_bucket h.b)
  have hc : candOf 118 ((b ++ 47 :: k) ++ 47 :: numText n) = some ⟨118, b, k, n, 0⟩ := by
    show (match lastCut ((b ++ 47 :: k) ++ 47 :: numText n) with | none => none | some (a, b) => some _) = _
    rw [lastCut_at hn]
    simp only
    rw [c2, readNum_text ⟨by have := h.n; omega, h.n.2⟩]
    rfl
  have hk : placeKeyL ⟨118, b, k, n, 0⟩ = versionKeyL b k n := rfl
  unfold placeOf
  rw [c1]
  simp only
  rw [hc]
  simp only
  rw [if_pos ⟨by rw [hk, e]; simp, hk⟩]
theorem version_inj {b k b' k' : List UInt8} {n n' : Int} (h : VerOK b k n) (h' : VerOK b' k' n') (e : versionKeyL b k n = versionKeyL b' k' n') : b = b' ∧ k = k' ∧ n = n' := by
  have e1 := version_place h
  rw [e, version_place h'] at e1
  simp only [Option.some.injEq, PlaceV.mk.injEq, true_and, and_true] at e1
  exact ⟨e1.1.symm, e1.2.1.symm, e1.2.2.symm⟩
theorem version_len {b k : List UInt8} {n : Int} (h : VerOK b k n) : (versionKeyL b k n).length ≤ 183 := by
  rw [version_eq h]
  have := (bucket_bytes h.b).1
  have := h.k
  have := (numText_in ⟨by have := h.n; omega, h.n.2⟩).1
  simp
  omega
theorem key_inj {hd : List UInt8} {n m : Int} (hn : 1 ≤ n ∧ n ≤ 9007199254740991) (hm : 1 ≤ m ∧ m ≤ 9007199254740991) (e : keyL hd n = keyL hd m) : n = m := by
  unfold keyL at e
  rw [if_pos hn, if_pos hm] at e
  have := List.append_cancel_left e
  have h1 := readNum_text (n := n) ⟨by omega, hn.2⟩
  rw [this, readNum_text (n := m) ⟨by omega, hm.2⟩] at h1
  exact (Option.some.inj h1).symm
theorem key_ne {n : Int} (hn : 1 ≤ n ∧ n ≤ 9007199254740991) : keyL [100, 47] n ≠ keyL [117, 47] n := by
  unfold keyL
  rw [if_pos hn, if_pos hn]
  simp
theorem bucketKey_inj {b c : List UInt8} (hb : bucketB b = true) (hc : bucketB c = true) (e : bucketKeyL b = bucketKeyL c) : b = c := by
  unfold bucketKeyL at e
  rw [if_pos hb, if_pos hc] at e
  exact List.append_cancel_left e

end Go.Proofs.YtajmkkjlhmeolaaGreatDoor
