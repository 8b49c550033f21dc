/-
  days, at whatever element.
-/
import Derived.Test.YtnnfcbebjbfkoaaDoorCyDaysB
import Derived.Test.YtnnfcbebjbfkoaaDoorCyDaysC
import Derived.Test.YtnnfcbebjbfkoaaDoorCyDaysD
import Derived.Test.YtnnfcbebjbfkoaaDoorCyDaysE
namespace Go.Proofs.YtnnfcbebjbfkoaaDoor
open Go.RowKit


theorem atoi_ints (s : List UInt8) (v : Int) (h : Lib.atoiAll s = .ok v) : IntOK v := by
  unfold Lib.atoiAll at h
  unfold IntOK
  split at h
  · cases h
  · simp only at h
    split at h
    · cases h
    · cases h
    · split at h
      · cases h
      · split at h
        · cases h
        · simp only [Lib.NumEnd.ok.injEq] at h
          subst h
          split <;> omega

/-- days, at whatever element -/
theorem days_any (t : Tree) (a : Option Addr) (c : Nat) (name : ByteArray) (w : World) (hg : Glob w) (hk : KidsIn w t.kids a 0) :
    Calls Tryd.prog 51 #[elemV t a c, .string name] w fun e w' => e = .returned (.int .i64 (daysOf t name.toList)) ∧ Below w.heap.size w w' := by
  obtain ⟨n, t, ks⟩ := t
  simp only [Tree.kids] at hk
  match ks, hk with
  | [], _ => exact days_not1 n t name a 0 c w (by simp)
  | p :: q :: l, _ => exact days_not1 n t name a _ c w (by simp [Tree.kids])
  | [.node kn kt kk], hk =>
    have hE : daysOf (.node n t [.node kn kt kk]) name.toList = if t.toList.isEmpty && (kn.toList == name.toList) && (kk.length == 0 && decide ((kt.size : Int) ≤ 5)) then dayNum kt else 0 := rfl
    rw [hE]
    obtain ⟨b, off, a', c', rfl, k0, k1, k2, _⟩ := hk.kid (j := 0) rfl
    simp only [Nat.zero_mul, Nat.add_zero, Tree.name, Tree.text, Tree.kids] at k0 k1 k2
    cases hc : (t.toList.isEmpty && (kn.toList == name.toList) && (kk.length == 0 && decide ((kt.size : Int) ≤ 5)))
    · rw [if_neg (by simp)]
      exact days_no n t name kn kt kk.length c b off c' a' w k0 k1 k2 hc
    · rw [if_pos rfl]
      simp only [Bool.and_eq_true, List.isEmpty_iff, beq_iff_eq, decide_eq_true_eq] at hc
      obtain ⟨⟨h1, h2⟩, h3, h4⟩ := hc
      rw [h3] at k2
      have h2' : (kn.toList == name.toList) = true := by rw [h2]; simp
      unfold dayNum
      rcases hat : Lib.atoiAll kt.data.toList with v | _ | _
      · have hv := atoi_ints _ _ hat
        simp only
        rw [← ByteArray.toList_eq]
        cases hq : (Lib.itoa v == kt.toList)
        · exact days_ne n t name kn kt c b off c' a' v w hg hv k0 k1 k2 h1 h2' (by omega) hat hq
        · by_cases hlo : 1 ≤ v
          · by_cases hhi : v ≤ 36500
            · rw [if_pos (by simp [hlo, hhi])]
              exact days_fine n t name kn kt c b off c' a' v w hg hv k0 k1 k2 h1 h2' (by omega) hat hq hlo hhi
            · rw [if_neg (by simp; omega)]
              exact days_hi n t name kn kt c b off c' a' v w hg hv k0 k1 k2 h1 h2' (by omega) hat hq hlo (by omega)
          · rw [if_neg (by simp; omega)]
            exact days_lo n t name kn kt c b off c' a' v w hg hv k0 k1 k2 h1 h2' (by omega) hat hq (by omega)
      · exact days_bad n t name kn kt c b off c' a' w hg k0 k1 k2 h1 h2' (by omega) (by simp [hat])
      · exact days_bad n t name kn kt c b off c' a' w hg k0 k1 k2 h1 h2' (by omega) (by simp [hat])

end Go.Proofs.YtnnfcbebjbfkoaaDoor
