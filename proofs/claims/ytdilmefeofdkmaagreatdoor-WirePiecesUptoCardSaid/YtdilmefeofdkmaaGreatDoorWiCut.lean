/-
  strings.Cut at one byte, at every text.
-/
import Derived.Test.YtdilmefeofdkmaaGreatDoorSm8
import Derived.Test.YtdilmefeofdkmaaGreatDoorWiPlain
import Derived.Test.YtdilmefeofdkmaaGreatDoorMtPlain
import Derived.RegionTactic
import Derived.Lib.IndexBytes
import Derived.Lib.Strings
namespace Go.Proofs.YtdilmefeofdkmaaGreatDoor
open Go.RowKit

theorem belowDrewN {B : Nat} {a w : World} (h : Below B a w) (n : Nat) : Below B a (w.drewN n) := ⟨h.os, h.tape, h.output, h.size, h.block⟩
theorem extract_take (s : ByteArray) (i : Nat) : s.extract 0 i = ⟨(s.data.toList.take i).toArray⟩ := by
  have h := Lib.extract_data s 0 i
  rw [List.drop_zero, Nat.sub_zero] at h
  rw [← h]
theorem extract_drop (s : ByteArray) (i : Nat) : s.extract i s.size = ⟨(s.data.toList.drop i).toArray⟩ := by
  have h := Lib.extract_to_end s i
  rw [← h]

set_option maxHeartbeats 1000000 in
theorem slcut_any (s : ByteArray) (c : UInt8) (w : World) (hs : s.size ≤ 9223372036854775806) :
    Calls Tryz.prog 110 #[.string s, .string ⟨#[c]⟩] w fun e w' => e = .returned (.tuple #[.string ⟨(cut1 s.data.toList c).1.toArray⟩, .string ⟨(cut1 s.data.toList c).2.1.toArray⟩, .bool (cut1 s.data.toList c).2.2]) ∧ ∃ n, w' = w.drewN n := by
  have hl : s.data.toList.length = s.size := by simp
  rcases indexByte_cases s.data.toList c with ⟨h1, h2⟩ | ⟨i, hi, hlt, _, _⟩
  · have HC : Hid (cut1 s.data.toList c = (s.data.toList, [], false)) := cut1_no h2
    have H1 := Lib.hid h1
    clear h1 h2 hl
    go_enter Tryz.func110, Tryz.ntmps110
    go_wp2_with fail
    refine (Tryz.stringslite_Index_one _ _ _).mono ?_
    rintro e w' ⟨rfl, rfl⟩
    rw [H1.out]
    go_wp2
    go_ret3
    rw [HC.out]
    exact ⟨rfl, 0, rfl⟩
  · have HC : Hid (cut1 s.data.toList c = (s.data.toList.take i, s.data.toList.drop (i + 1), true)) := by
      show _ = _
      unfold cut1
      rw [hi, if_pos (by omega)]; rfl
    have H1 := Lib.hid hi
    have c1 : (0 : Int) ≤ (i : Int) := by omega
    have c2 : (i : Int) ≤ (s.size : Int) := by omega
    have c3 : (0 : Int) ≤ (i : Int) + 1 := by omega
    have c4 : (i : Int) + 1 ≤ (s.size : Int) := by omega
    clear hi hl
    go_enter Tryz.func110, Tryz.ntmps110
    go_wp2_with fail
    refine (Tryz.stringslite_Index_one _ _ _).mono ?_
    rintro e w' ⟨rfl, rfl⟩
    rw [H1.out]
    go_wp2
    go_region
    go_wp2
    go_ret3
    rw [HC.out]
    exact ⟨by rw [← extract_take, ← extract_drop s (i + 1)]; rfl, 1, rfl⟩

set_option maxHeartbeats 1000000 in
theorem cut_any (s : ByteArray) (c : UInt8) (w : World) (hs : s.size ≤ 9223372036854775806) :
    Calls Tryz.prog 95 #[.string s, .string ⟨#[c]⟩] w fun e w' => e = .returned (.tuple #[.string ⟨(cut1 s.data.toList c).1.toArray⟩, .string ⟨(cut1 s.data.toList c).2.1.toArray⟩, .bool (cut1 s.data.toList c).2.2]) ∧ ∃ n, w' = w.drewN n := by
  go_enter Tryz.func95, Tryz.ntmps95
  go_wp2_with fail
  refine (slcut_any s c _ hs).mono ?_
  rintro e w' ⟨rfl, n, rfl⟩
  go_wp2
  go_ret3
  exact ⟨rfl, n, rfl⟩

theorem cutAt_no {c : UInt8} : ∀ {l : List UInt8}, c ∉ l → cutAt c l = (l, [], false)
  | [], _ => rfl
  | b :: l, h => by
    simp only [List.mem_cons, not_or] at h
    simp only [cutAt, if_neg (fun e : b = c => h.1 e.symm), cutAt_no h.2]
theorem cutAt_at {c : UInt8} : ∀ {a b : List UInt8}, c ∉ a → cutAt c (a ++ c :: b) = (a, b, true)
  | [], b, _ => by simp [cutAt]
  | x :: a, b, h => by
    simp only [List.mem_cons, not_or] at h
    simp only [List.cons_append, cutAt, if_neg (fun e : x = c => h.1 e.symm), cutAt_at h.2]
theorem mem_split {c : UInt8} : ∀ {l : List UInt8}, c ∈ l → ∃ a b, l = a ++ c :: b ∧ c ∉ a
  | x :: l, h => by
    by_cases e : x = c
    · exact ⟨[], l, by rw [e]; rfl, by simp⟩
    · obtain ⟨a, b, rfl, h2⟩ := mem_split (l := l) (by rcases List.mem_cons.1 h with h | h; exact absurd h.symm e; exact h)
      exact ⟨x :: a, b, rfl, by simp only [List.mem_cons, not_or]; exact ⟨fun y => e y.symm, h2⟩⟩
theorem cut1_cutAt (l : List UInt8) (c : UInt8) : cut1 l c = cutAt c l := by
  by_cases h : c ∈ l
  · obtain ⟨a, b, rfl, h2⟩ := mem_split h
    rw [cut1_at h2, cutAt_at h2]
  · rw [cut1_no h, cutAt_no h]
/-- strings.Cut -/
theorem cutL_any (l : List UInt8) (c : UInt8) (w : World) (hs : l.length ≤ 140737488351232) :
    Calls Tryz.prog 95 #[.string ⟨l.toArray⟩, .string ⟨#[c]⟩] w fun e w' => e = .returned (.tuple #[.string ⟨(cutAt c l).1.toArray⟩, .string ⟨(cutAt c l).2.1.toArray⟩, .bool (cutAt c l).2.2]) ∧ Below w.heap.size w w' := by
  refine (cut_any ⟨l.toArray⟩ c w (by simp [ByteArray.size]; omega)).mono ?_
  rintro e w' ⟨rfl, n, rfl⟩
  rw [← cut1_cutAt]
  exact ⟨rfl, belowDrewN (Below.refl _ _) _⟩
theorem cutAt_len (c : UInt8) : ∀ l : List UInt8, (cutAt c l).1.length ≤ l.length ∧ (cutAt c l).2.1.length ≤ l.length
  | [] => by simp [cutAt]
  | b :: l => by
    have := cutAt_len c l
    simp only [cutAt]
    split <;> simp <;> omega

end Go.Proofs.YtdilmefeofdkmaaGreatDoor
