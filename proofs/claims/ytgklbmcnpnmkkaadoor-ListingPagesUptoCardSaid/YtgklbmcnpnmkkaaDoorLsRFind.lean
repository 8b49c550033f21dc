/-
  storehouseref20.starts, find, seq.
-/
import Derived.Test.YtgklbmcnpnmkkaaDoorLsRefP
import Derived.Test.YtgklbmcnpnmkkaaDoorSm6
import Derived.Lib.Strings
namespace Go.Proofs.YtgklbmcnpnmkkaaDoor
open Go.RowKit Go.Lib

theorem ext_take (l : List UInt8) (i : Nat) : (⟨l.toArray⟩ : ByteArray).extract 0 i = ⟨(l.take i).toArray⟩ := by
  apply ByteArray.ext
  exact Array.ext' (by simp)
theorem ext_mid (l : List UInt8) (i n : Nat) : (⟨l.toArray⟩ : ByteArray).extract i (i + n) = ⟨((l.drop i).take n).toArray⟩ := by
  apply ByteArray.ext
  have h1 := Lib.extract_data (⟨l.toArray⟩ : ByteArray) i (i + n)
  rw [show i + n - i = n from by omega] at h1
  exact Array.ext' h1
theorem starts_any (s head : List UInt8) (w : World) (_hs : s.length ≤ 140737488355328) (_hh : head.length ≤ 140737488355328) :
    Calls Tryd.prog 69 #[.string ⟨s.toArray⟩, .string ⟨head.toArray⟩] w fun e w' => e = .returned (.bool (head.isPrefixOf s)) ∧ w' = w := by
  obtain ⟨r, hr⟩ : ∃ r, head.isPrefixOf s = r := ⟨_, rfl⟩
  have HR : Hid (r = true ↔ head = s.take head.length) := by show _ ↔ _; rw [← hr, List.isPrefixOf_iff_prefix, List.prefix_iff_eq_take]
  rw [hr]
  clear hr
  go_enter Tryd.func69, Tryd.ntmps69
  by_cases h1 : head.length ≤ s.length
  · have h1z : (head.length : Int) ≤ (s.length : Int) := by omega
    have hx := ext_take s head.length
    obtain ⟨X, hX⟩ : ∃ X, s.take head.length = X := ⟨_, rfl⟩
    rw [hX] at hx HR
    clear hX
    by_cases he : X = head
    · have HT := Lib.hid (HR.out.2 he.symm)
      subst he
      go_wp2_with fail
      go_ret
      exact ⟨by rw [HT.out]; rfl, rfl⟩
    · have he2 : (X == head) = false := beq_eq_false_iff_ne.2 he
      have HT : Hid (r = false) := by show _ = _; cases r; rfl; exact absurd (HR.out.1 rfl).symm he
      go_wp2_with fail
      go_ret
      exact ⟨by rw [HT.out]; rfl, rfl⟩
  · have h1z : decide ((head.length : Int) ≤ (s.length : Int)) = false := by rw [decide_eq_false_iff_not]; omega
    have HT : Hid (r = false) := by
      show _ = _
      cases r
      · rfl
      · have := congrArg List.length (HR.out.1 rfl)
        rw [List.length_take] at this
        omega
    go_wp2_with fail
    go_ret
    exact ⟨by rw [HT.out]; rfl, rfl⟩
def findI (s what : List UInt8) (i : Nat) : Int := match findFrom s what i with | some n => (n : Int) | none => -1

set_option maxHeartbeats 2000000 in
set_option maxRecDepth 100000 in
theorem find_any (s : List UInt8) (d0 : UInt8) (dt : List UInt8) (i0 : Nat) (w : World) (hs : s.length ≤ 140737488355328) (hh : dt.length ≤ 140737488355300) (hi : i0 ≤ s.length) :
    Calls Tryd.prog 70 #[.string ⟨s.toArray⟩, .string ⟨(d0 :: dt).toArray⟩, .int .i64 i0] w fun e w' => e = .returned (.int .i64 (findI s (d0 :: dt) i0)) ∧ w' = w := by
  go_enter Tryd.func70, Tryd.ntmps70
  go_wp2_with fail
  go_loopg [7] (s.length + 1) (fun gg s7 wr => ∃ i : Nat, i ≤ s.length + 1 ∧ s.length + 1 - i ≤ gg ∧ s7 = .int .i64 i ∧ Hid (findFrom s (d0 :: dt) i0 = findFrom s (d0 :: dt) i) ∧ wr = w)
  case atStart => exact ⟨i0, by omega, by omega, rfl, rfl, rfl⟩
  case round =>
    obtain ⟨i, hin, hg, rfl, HF, rfl⟩ := hrel
    by_cases hlt : i + (dt.length + 1) ≤ s.length
    · have hltz : (i : Int) + ((dt.length : Int) + 1) ≤ (s.length : Int) := by omega
      have hx := ext_mid s i (dt.length + 1)
      have hle : i + (d0 :: dt).length ≤ s.length := by simpa using hlt
      have HE := Lib.hid (find_here (s := s) (what := d0 :: dt) hle)
      have HN := Lib.hid (find_next (s := s) (what := d0 :: dt) hle (by simp))
      rw [show (d0 :: dt).length = dt.length + 1 from rfl] at HE HN
      obtain ⟨X, hX⟩ : ∃ X, (s.drop i).take (dt.length + 1) = X := ⟨_, rfl⟩
      rw [hX] at hx HE HN
      clear hX hle
      by_cases he : X = d0 :: dt
      · have HV : Hid (findI s (d0 :: dt) i0 = (i : Int)) := by show _ = _; unfold findI; rw [HF.out, HE.out he]
        subst he
        go_wp2_with fail
        go_ret
        exact ⟨by rw [HV.out]; rfl, rfl⟩
      · have he2 : (X == d0 :: dt) = false := beq_eq_false_iff_ne.2 he
        have HF2 : Hid (findFrom s (d0 :: dt) i0 = findFrom s (d0 :: dt) (i + 1)) := HF.out.trans (HN.out he)
        go_wp2_with fail
        go_roundg (s.length + 1 - (i + 1))
        case measure => omega
        case rel => exact ⟨i + 1, by omega, Nat.le_refl _, vnext, HF2.out, rfl⟩
    · have hltz : ¬ (i : Int) + ((dt.length : Int) + 1) ≤ (s.length : Int) := by omega
      have HV : Hid (findI s (d0 :: dt) i0 = -1) := by
        show _ = _
        unfold findI
        rw [HF.out, find_end (by simp only [List.length_cons]; omega) (by simp)]
      go_wp2_with fail
      go_ret
      exact ⟨by rw [HV.out]; rfl, rfl⟩
end Go.Proofs.YtgklbmcnpnmkkaaDoor
