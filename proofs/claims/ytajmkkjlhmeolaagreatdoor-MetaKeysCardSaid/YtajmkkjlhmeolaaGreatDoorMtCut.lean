/-
  strings.Cut at one byte, at every text.
-/
import Derived.Test.YtajmkkjlhmeolaaGreatDoorConv
import Derived.Test.YtajmkkjlhmeolaaGreatDoorMtPlain
import Derived.RegionTactic
import Derived.Lib.IndexBytes
import Derived.Lib.Strings
namespace Go.Proofs.YtajmkkjlhmeolaaGreatDoor
open Go.RowKit

theorem belowDrewN {B : Nat} {a w : World} (h : Below B a w) (n : Nat) : Below B a (w.drewN n) := ⟨h.os, h.tape, h.output, h.size, h.block⟩
theorem extract_take (s : ByteArray) (i : Nat) : s.extract 0 i = ⟨(s.data.toList.take i).toArray⟩ := by
  have h := Lib.extract_data s 0 i
  rw [List.drop_zero, Nat.sub_zero] at h
  rw [← h]
theorem extract_drop (s : ByteArray) (i : Nat) : s.extract i s.size = ⟨(s.data.toList.drop i).toArray⟩ := by
  have h := Lib.extract_to_end s i
  rw [← h]

set_option maxHeartbeats 1000000 in
theorem slcut_any (s : ByteArray) (c : UInt8) (w : World) (hs : s.size ≤ 9223372036854775806) :
    Calls Tryz.prog 89 #[.string s, .string ⟨#[c]⟩] w fun e w' => e = .returned (.tuple #[.string ⟨(cut1 s.data.toList c).1.toArray⟩, .string ⟨(cut1 s.data.toList c).2.1.toArray⟩, .bool (cut1 s.data.toList c).2.2]) ∧ ∃ n, w' = w.drewN n := by
  have hl : s.data.toList.length = s.size := by simp
  rcases indexByte_cases s.data.toList c with ⟨h1, h2⟩ | ⟨i, hi, hlt, _, _⟩
  · have HC : Hid (cut1 s.data.toList c = (s.data.toList, [], false)) := cut1_no h2
    have H1 := Lib.hid h1
    clear h1 h2 hl
    go_enter Tryz.func89, Tryz.ntmps89
    go_wp2_with fail
    refine (Tryz.stringslite_Index_one _ _ _).mono ?_
    rintro e w' ⟨rfl, rfl⟩
    rw [H1.out]
    go_wp2
    go_ret3
    rw [HC.out]
    exact ⟨rfl, 0, rfl⟩
  · have HC : Hid (cut1 s.data.toList c = (s.data.toList.take i, s.data.toList.drop (i + 1), true)) := by
      show _ = _
      unfold cut1
      rw [hi, if_pos (by omega)]; rfl
    have H1 := Lib.hid hi
    have c1 : (0 : Int) ≤ (i : Int) := by omega
    have c2 : (i : Int) ≤ (s.size : Int) := by omega
    have c3 : (0 : Int) ≤ (i : Int) + 1 := by omega
    have c4 : (i : Int) + 1 ≤ (s.size : Int) := by omega
    clear hi hl
    go_enter Tryz.func89, Tryz.ntmps89
    go_wp2_with fail
    refine (Tryz.stringslite_Index_one _ _ _).mono ?_
    rintro e w' ⟨rfl, rfl⟩
    rw [H1.out]
    go_wp2
    go_region
    go_wp2
    go_ret3
    rw [HC.out]
    exact ⟨by rw [← extract_take, ← extract_drop s (i + 1)]; rfl, 1, rfl⟩

set_option maxHeartbeats 1000000 in
theorem cut_any (s : ByteArray) (c : UInt8) (w : World) (hs : s.size ≤ 9223372036854775806) :
    Calls Tryz.prog 49 #[.string s, .string ⟨#[c]⟩] w fun e w' => e = .returned (.tuple #[.string ⟨(cut1 s.data.toList c).1.toArray⟩, .string ⟨(cut1 s.data.toList c).2.1.toArray⟩, .bool (cut1 s.data.toList c).2.2]) ∧ ∃ n, w' = w.drewN n := by
  go_enter Tryz.func49, Tryz.ntmps49
  go_wp2_with fail
  refine (slcut_any s c _ hs).mono ?_
  rintro e w' ⟨rfl, n, rfl⟩
  go_wp2
  go_ret3
  exact ⟨rfl, n, rfl⟩

end Go.Proofs.YtajmkkjlhmeolaaGreatDoor
