/-
  SEVERAL SMALL TEXTS IN ONE.
-/
import Derived.Test.YtdilmefeofdkmaaGreatDoorSm5
import Derived.Test.YtdilmefeofdkmaaGreatDoorSm0
import Derived.Test.YtdilmefeofdkmaaGreatDoorMtPlain
import Derived.RegionTactic
import Derived.Lib.IndexBytes
import Derived.Lib.Strings
import Derived.Test.YtdilmefeofdkmaaGreatDoorWiLeaf
/-
  strings.Cut at one byte, at every text.
-/
namespace Go.Proofs.YtdilmefeofdkmaaGreatDoor
open Go.RowKit

theorem belowDrewN {B : Nat} {a w : World} (h : Below B a w) (n : Nat) : Below B a (w.drewN n) := ⟨h.os, h.tape, h.output, h.size, h.block⟩
theorem extract_take (s : ByteArray) (i : Nat) : s.extract 0 i = ⟨(s.data.toList.take i).toArray⟩ := by
  have h := Lib.extract_data s 0 i
  rw [List.drop_zero, Nat.sub_zero] at h
  rw [← h]
theorem extract_drop (s : ByteArray) (i : Nat) : s.extract i s.size = ⟨(s.data.toList.drop i).toArray⟩ := by
  have h := Lib.extract_to_end s i
  rw [← h]

set_option maxHeartbeats 1000000 in
theorem slcut_any (s : ByteArray) (c : UInt8) (w : World) (hs : s.size ≤ 9223372036854775806) :
    Calls Tryz.prog 110 #[.string s, .string ⟨#[c]⟩] w fun e w' => e = .returned (.tuple #[.string ⟨(cut1 s.data.toList c).1.toArray⟩, .string ⟨(cut1 s.data.toList c).2.1.toArray⟩, .bool (cut1 s.data.toList c).2.2]) ∧ ∃ n, w' = w.drewN n := by
  have hl : s.data.toList.length = s.size := by simp
  rcases indexByte_cases s.data.toList c with ⟨h1, h2⟩ | ⟨i, hi, hlt, _, _⟩
  · have HC : Hid (cut1 s.data.toList c = (s.data.toList, [], false)) := cut1_no h2
    have H1 := Lib.hid h1
    clear h1 h2 hl
    go_enter Tryz.func110, Tryz.ntmps110
    go_wp2_with fail
    refine (Tryz.stringslite_Index_one _ _ _).mono ?_
    rintro e w' ⟨rfl, rfl⟩
    rw [H1.out]
    go_wp2
    go_ret3
    rw [HC.out]
    exact ⟨rfl, 0, rfl⟩
  · have HC : Hid (cut1 s.data.toList c = (s.data.toList.take i, s.data.toList.drop (i + 1), true)) := by
      show _ = _
      unfold cut1
      rw [hi, if_pos (by omega)]; rfl
    have H1 := Lib.hid hi
    have c1 : (0 : Int) ≤ (i : Int) := by omega
    have c2 : (i : Int) ≤ (s.size : Int) := by omega
    have c3 : (0 : Int) ≤ (i : Int) + 1 := by omega
    have c4 : (i : Int) + 1 ≤ (s.size : Int) := by omega
    clear hi hl
    go_enter Tryz.func110, Tryz.ntmps110
    go_wp2_with fail
    refine (Tryz.stringslite_Index_one _ _ _).mono ?_
    rintro e w' ⟨rfl, rfl⟩
    rw [H1.out]
    go_wp2
    go_region
    go_wp2
    go_ret3
    rw [HC.out]
    exact ⟨by rw [← extract_take, ← extract_drop s (i + 1)]; rfl, 1, rfl⟩

set_option maxHeartbeats 1000000 in
theorem cut_any (s : ByteArray) (c : UInt8) (w : World) (hs : s.size ≤ 9223372036854775806) :
    Calls Tryz.prog 95 #[.string s, .string ⟨#[c]⟩] w fun e w' => e = .returned (.tuple #[.string ⟨(cut1 s.data.toList c).1.toArray⟩, .string ⟨(cut1 s.data.toList c).2.1.toArray⟩, .bool (cut1 s.data.toList c).2.2]) ∧ ∃ n, w' = w.drewN n := by
  go_enter Tryz.func95, Tryz.ntmps95
  go_wp2_with fail
  refine (slcut_any s c _ hs).mono ?_
  rintro e w' ⟨rfl, n, rfl⟩
  go_wp2
  go_ret3
  exact ⟨rfl, n, rfl⟩

theorem cutAt_no {c : UInt8} : ∀ {l : List UInt8}, c ∉ l → cutAt c l = (l, [], false)
  | [], _ => rfl
  | b :: l, h => by
    simp only [List.mem_cons, not_or] at h
    simp only [cutAt, if_neg (fun e : b = c => h.1 e.symm), cutAt_no h.2]
theorem cutAt_at {c : UInt8} : ∀ {a b : List UInt8}, c ∉ a → cutAt c (a ++ c :: b) = (a, b, true)
  | [], b, _ => by simp [cutAt]
  | x :: a, b, h => by
    simp only [List.mem_cons, not_or] at h
    simp only [List.cons_append, cutAt, if_neg (fun e : x = c => h.1 e.symm), cutAt_at h.2]
theorem mem_split {c : UInt8} : ∀ {l : List UInt8}, c ∈ l → ∃ a b, l = a ++ c :: b ∧ c ∉ a
  | x :: l, h => by
    by_cases e : x = c
    · exact ⟨[], l, by rw [e]; rfl, by simp⟩
    · obtain ⟨a, b, rfl, h2⟩ := mem_split (l := l) (by rcases List.mem_cons.1 h with h | h; exact absurd h.symm e; exact h)
      exact ⟨x :: a, b, rfl, by simp only [List.mem_cons, not_or]; exact ⟨fun y => e y.symm, h2⟩⟩
theorem cut1_cutAt (l : List UInt8) (c : UInt8) : cut1 l c = cutAt c l := by
  by_cases h : c ∈ l
  · obtain ⟨a, b, rfl, h2⟩ := mem_split h
    rw [cut1_at h2, cutAt_at h2]
  · rw [cut1_no h, cutAt_no h]
/-- strings.Cut -/
theorem cutL_any (l : List UInt8) (c : UInt8) (w : World) (hs : l.length ≤ 140737488351232) :
    Calls Tryz.prog 95 #[.string ⟨l.toArray⟩, .string ⟨#[c]⟩] w fun e w' => e = .returned (.tuple #[.string ⟨(cutAt c l).1.toArray⟩, .string ⟨(cutAt c l).2.1.toArray⟩, .bool (cutAt c l).2.2]) ∧ Below w.heap.size w w' := by
  refine (cut_any ⟨l.toArray⟩ c w (by simp [ByteArray.size]; omega)).mono ?_
  rintro e w' ⟨rfl, n, rfl⟩
  rw [← cut1_cutAt]
  exact ⟨rfl, belowDrewN (Below.refl _ _) _⟩
theorem cutAt_len (c : UInt8) : ∀ l : List UInt8, (cutAt c l).1.length ≤ l.length ∧ (cutAt c l).2.1.length ≤ l.length
  | [] => by simp [cutAt]
  | b :: l => by
    have := cutAt_len c l
    simp only [cutAt]
    split <;> simp <;> omega

end Go.Proofs.YtdilmefeofdkmaaGreatDoor

/-
  WIRE: all, isName: texts of bytes of a kind.
-/
namespace Go.Proofs.YtdilmefeofdkmaaGreatDoor
open Go.RowKit

set_option maxHeartbeats 1000000 in
theorem all1_any {k : Nat} {p : UInt8 → Bool} (ht : IsTest k p) (b : UInt8) (B : Nat) (W : World) (hc : W.cell? ⟨B, 0, none⟩ = some (.func (.func k) #[] #[])) :
    Calls Tryz.prog 88 #[.int .u8 (b.toNat : Int), .pointer (some ⟨B, 0, none⟩)] W fun e w' => e = .returned (.bool (!p b)) ∧ w' = W := by
  obtain ⟨eg, hp⟩ := ht
  have HP := Lib.hid (fun W => hp b W)
  clear hp
  obtain ⟨x, hx⟩ : ∃ x, p b = x := ⟨_, rfl⟩
  rw [hx] at HP ⊢
  clear hx
  go_enter Tryz.func88, Tryz.ntmps88
  go_wp2_with (go_at_fn k; refine (HP.out _).mono ?_; rintro e w' ⟨rfl, rfl⟩)
  go_ret
  exact ⟨rfl, rfl⟩

set_option maxHeartbeats 2000000 in
set_option maxRecDepth 100000 in
theorem all_any (s : List UInt8) (hs : s.length ≤ 140737488351232) {k : Nat} {p : UInt8 → Bool} (ht : IsTest k p) (w : World) :
    Calls Tryz.prog 62 #[.string ⟨s.toArray⟩, .func (.func k) #[] #[]] w fun e w' => e = .returned (.bool (allB s p)) ∧ Below w.heap.size w w' := by
  by_cases hne : s = []
  · subst hne
    have hbw := Lib.hid (below_alloc (Below.refl w.heap.size w) (Nat.le_refl _) (.cells #[.func (.func k) #[] #[]] 75))
    clear ht hs
    go_enter Tryz.func62, Tryz.ntmps62
    go_wp2
    go_ret
    exact ⟨rfl, hbw.out⟩
  · have hsz : (⟨s.toArray⟩ : ByteArray).size = s.length := by simp [ByteArray.size]
    obtain ⟨w1, hw1⟩ : ∃ w1, w.alloc (.cells #[.func (.func k) #[] #[]] 75) = w1 := ⟨_, rfl⟩
    have hb1 : Below w.heap.size w w1 := by rw [← hw1]; exact below_alloc (Below.refl _ _) (Nat.le_refl _) _
    have hc1 : w1.cell? ⟨w.heap.size, 0, none⟩ = some (.func (.func k) #[] #[]) := by rw [← hw1]; exact cell_new _ _ _ _ _ _ rfl rfl
    have hcv := Lib.run_convert_string_bytes (P := Tryz.prog) w1 9 41 5 ⟨s.toArray⟩ (u := .string) Tryz.underlying9 Tryz.underlying41 Tryz.underlying5
    have hB : ∀ j, j < s.length → (Lib.bytesWorld w1 5 ⟨s.toArray⟩).cell? ⟨w1.heap.size, 0 + j, none⟩ = some (encB s[j]!) := fun j hj => by
      rw [Nat.zero_add, Lib.bytesWorld_cell w1 5 ⟨s.toArray⟩ j (by rw [hsz]; exact hj)]
      simp [encB, hj]
    have hb2 := below_bytesWorld w1 5 ⟨s.toArray⟩
    obtain ⟨w2, hw2⟩ : ∃ w2, Lib.bytesWorld w1 5 ⟨s.toArray⟩ = w2 := ⟨_, rfl⟩
    rw [hw2] at hcv hB hb2
    have hc2 : w2.cell? ⟨w.heap.size, 0, none⟩ = some (.func (.func k) #[] #[]) := cell_later hb2 hc1
    have hlt : w.heap.size < w2.heap.size := World.block_lt_of_cell? _ _ hc2
    have HC : Hid (∀ cp, Calls Tryz.prog 41 #[.slice (some ⟨w1.heap.size, 0, none⟩) s.length cp, .func (.func 88) #[] #[.pointer (some ⟨w.heap.size, 0, none⟩)]] w2 fun e w' => e = .returned (.bool (s.any fun b => !p b)) ∧ ∃ q, w' = w2.drewN q) := fun cp => by
      have := Tryz.slices_ContainsFunc_f41 encB (fun b => !p b) 88 #[.pointer (some ⟨w.heap.size, 0, none⟩)] (enters_of Tryz.func88 (by kernel_rfl) rfl) w1.heap.size 0 s.length cp s w2
        (fun W x hW => by
          refine (all1_any ht x w.heap.size W (by rw [hW.cell (by simpa using hlt)]; exact hc2)).mono ?_
          rintro e w' ⟨rfl, rfl⟩
          exact ⟨rfl, 0, rfl⟩) (Nat.le_refl _) (by omega) hB
      rwa [List.take_length] at this
    have HW : Hid (Below w.heap.size w w2) := hb1.trans (hb2.mono hb1.size)
    have HV : Hid (allB s p = !(s.any fun b => !p b)) := by
      show _ = _
      unfold allB
      cases s with
      | nil => exact absurd rfl hne
      | cons b l => simp [List.all_eq_not_any_not]
    obtain ⟨x, hx⟩ : ∃ x, (s.any fun b => !p b) = x := ⟨_, rfl⟩
    rw [hx] at HC HV
    rw [HV.out]
    clear hB hb1 hb2 hc1 hc2 hw2 ht hx
    go_enter Tryz.func62, Tryz.ntmps62
    go_wp2_with (refine (HC.out _).mono ?_; rintro e w' ⟨rfl, q, rfl⟩)
    go_ret
    exact ⟨by cases x <;> first | rfl | (simp [hne]; done), belowDrewN HW.out _⟩

theorem isName_any (s : List UInt8) (hs : s.length ≤ 140737488351232) (w : World) :
    Calls Tryz.prog 39 #[.string ⟨s.toArray⟩] w fun e w' => e = .returned (.bool (allB s nameB)) ∧ Below w.heap.size w w' := by
  have HC := Lib.hid (fun W => all_any s hs nameChar_test W)
  clear hs
  go_enter Tryz.func39, Tryz.ntmps39
  go_wp2_with fail
  refine (HC.out _).mono ?_
  rintro e w' ⟨rfl, hb⟩
  have HB := Lib.hid hb
  clear hb
  go_wp2
  go_ret
  exact ⟨rfl, HB.out⟩

end Go.Proofs.YtdilmefeofdkmaaGreatDoor
