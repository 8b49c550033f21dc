/-
  days: the walks at what is no number.
-/
import Derived.Test.YtnnfcbebjbfkoaaDoorSm
import Derived.Deep.RegionWith
import Derived.Deep.RegionHeld3
namespace Go.Proofs.YtnnfcbebjbfkoaaDoor
open Go.RowKit

set_option maxHeartbeats 400000 in
theorem days_not1 (n t name : ByteArray) (a : Option Addr) (len c : Nat) (w : World) (h : len ≠ 1) :
    Calls Tryd.prog 51 #[.agg #[.string n, .string t, .slice a len c], .string name] w fun e w' => e = .returned (.int .i64 0) ∧ Below w.heap.size w w' := by
  have h' : ((len : Int) == 1) = false := beq_eq_false_iff_ne.2 (by omega)
  have h'' : ((len : Int) != 1) = true := by rw [bne_iff_ne]; omega
  clear h
  go_enter Tryd.func51, Tryd.ntmps51
  go_wp2
  all_goals
    go_ret
    exact ⟨rfl, (by repeat (first | exact Below.refl _ _ | assumption | (refine below_drewN ?_ _) | (refine Below.alloc ?_ (by first | (simp; done) | (simp; omega) | omega) _) | (refine Below.setCell ?_ (by first | (simp; done) | (simp; omega) | omega) _)))⟩

set_option maxHeartbeats 400000 in
theorem days_no (n t name kn kt : ByteArray) (kl c b off c' : Nat) (a' : Option Addr) (w : World)
    (k0 : w.cell? ⟨b, off, none⟩ = some (.string kn)) (k1 : w.cell? ⟨b, off + 1, none⟩ = some (.string kt)) (k2 : w.cell? ⟨b, off + 2, none⟩ = some (.slice a' kl c'))
    (h : (t.toList.isEmpty && (kn.toList == name.toList) && (kl == 0 && decide ((kt.size : Int) ≤ 5))) = false) :
    Calls Tryd.prog 51 #[.agg #[.string n, .string t, .slice (some ⟨b, off, none⟩) 1 c], .string name] w fun e w' => e = .returned (.int .i64 0) ∧ Below w.heap.size w w' := by
  have hb : b < w.heap.size := World.block_lt_of_cell? w _ k0
  have HL := Lib.hid (fun w => leaf_walk kn kt a' kl c' 5 w)
  by_cases ht : t.toList = []
  · cases hn : (kn.toList == name.toList)
    · have hn2 : (kn.toList != name.toList) = true := by rw [bne, hn]; rfl
      clear h
      go_enter Tryd.func51, Tryd.ntmps51
      go_wp2
      go_ret
      exact ⟨rfl, (by repeat (first | exact Below.refl _ _ | assumption | (refine below_drewN ?_ _) | (refine Below.alloc ?_ (by first | (simp; done) | (simp; omega) | omega) _) | (refine Below.setCell ?_ (by first | (simp; done) | (simp; omega) | omega) _)))⟩
    · have hn2 : (kn.toList != name.toList) = false := by rw [bne, hn]; rfl
      rw [ht, hn] at h
      simp only [List.isEmpty_nil, Bool.true_and] at h
      rw [h] at HL
      clear h
      go_enter Tryd.func51, Tryd.ntmps51
      go_wp2_with fail
      refine (HL.out _).mono ?_
      rintro e w1 ⟨rfl, hb1⟩
      go_wp2
      go_ret
      exact ⟨rfl, (below_alloc (Below.refl _ _) (Nat.le_refl _) _).trans (hb1.mono (by simp))⟩
  · clear h
    go_enter Tryd.func51, Tryd.ntmps51
    go_wp2
    go_ret
    exact ⟨rfl, (by repeat (first | exact Below.refl _ _ | assumption | (refine below_drewN ?_ _) | (refine Below.alloc ?_ (by first | (simp; done) | (simp; omega) | omega) _) | (refine Below.setCell ?_ (by first | (simp; done) | (simp; omega) | omega) _)))⟩

set_option maxHeartbeats 400000 in
theorem days_bad (n t name kn kt : ByteArray) (c b off c' : Nat) (a' : Option Addr) (w : World) (hG : Glob w)
    (k0 : w.cell? ⟨b, off, none⟩ = some (.string kn)) (k1 : w.cell? ⟨b, off + 1, none⟩ = some (.string kt)) (k2 : w.cell? ⟨b, off + 2, none⟩ = some (.slice a' 0 c'))
    (ht : t.toList = []) (hn : (kn.toList == name.toList) = true) (hs : kt.size ≤ 5) (h : ∀ v, Lib.atoiAll kt.data.toList ≠ .ok v) :
    Calls Tryd.prog 51 #[.agg #[.string n, .string t, .slice (some ⟨b, off, none⟩) 1 c], .string name] w fun e w' => e = .returned (.int .i64 0) ∧ Below w.heap.size w w' := by
  have hb : b < w.heap.size := World.block_lt_of_cell? w _ k0
  have HL := Lib.hid (fun w => leaf_walk kn kt a' 0 c' 5 w)
  rw [show ((0 : Nat) == 0 && decide ((kt.size : Int) ≤ 5)) = true from by simp; omega] at HL
  have hn2 : (kn.toList != name.toList) = false := by rw [bne, hn]; rfl
  have HA := Lib.hid (fun w hG => atoi_bad kt (by omega) h w hG)
  have HG := Lib.hid hG
  clear h hG
  go_enter Tryd.func51, Tryd.ntmps51
  go_wp2_with fail
  refine (HL.out _).mono ?_
  rintro e w1 ⟨rfl, hb1⟩
  have s1 := hb1.size
  simp at s1
  have d2 : w1.cell? ⟨w.heap.size, 2, none⟩ = some (.slice (some ⟨b, off, none⟩) 1 c) := cell_later hb1 (cell_new _ _ _ _ _ _ rfl rfl)
  have e1 : w1.cell? ⟨b, off + 1, none⟩ = some (.string kt) := cell_later hb1 (cell_past _ k1)
  have HB1 : Hid (Below w.heap.size w w1) := (below_alloc (Below.refl _ _) (Nat.le_refl _) _).trans (hb1.mono (by simp))
  clear hb1
  go_wp2_with fail
  refine (HA.out _ (HG.out.later HB1.out)).mono ?_
  rintro e w2 ⟨⟨v, N, rfl⟩, hb2⟩
  have s2 := hb2.size
  have HB2 : Hid (Below w.heap.size w w2) := HB1.out.trans (hb2.mono (by omega))
  have d3 : w2.cell? ⟨w.heap.size, 2, none⟩ = some (.slice (some ⟨b, off, none⟩) 1 c) := cell_later hb2 d2
  have e3 : w2.cell? ⟨b, off + 1, none⟩ = some (.string kt) := cell_later hb2 e1
  clear hb2
  go_wp2
  go_quiet (fail)
  go_wp2
  go_ret
  exact ⟨rfl, below_drewN HB2.out _⟩


end Go.Proofs.YtnnfcbebjbfkoaaDoor
