/-
  days: the walk at a number that is written otherwise.
-/
import Derived.Test.YtnnfcbebjbfkoaaDoorCyDaysA
namespace Go.Proofs.YtnnfcbebjbfkoaaDoor
open Go.RowKit

set_option maxHeartbeats 1600000 in
theorem days_ne (n t name kn kt : ByteArray) (c b off c' : Nat) (a' : Option Addr) (v : Int) (w : World) (hG : Glob w) (hv : IntOK v)
    (k0 : w.cell? ⟨b, off, none⟩ = some (.string kn)) (k1 : w.cell? ⟨b, off + 1, none⟩ = some (.string kt)) (k2 : w.cell? ⟨b, off + 2, none⟩ = some (.slice a' 0 c'))
    (ht : t.toList = []) (hn : (kn.toList == name.toList) = true) (hs : kt.size ≤ 5) (h : Lib.atoiAll kt.data.toList = .ok v) (hq : (Lib.itoa v == kt.toList) = false) :
    Calls Tryd.prog 51 #[.agg #[.string n, .string t, .slice (some ⟨b, off, none⟩) 1 c], .string name] w fun e w' => e = .returned (.int .i64 0) ∧ Below w.heap.size w w' := by
  have hb : b < w.heap.size := World.block_lt_of_cell? w _ k0
  have HL := Lib.hid (fun w => leaf_walk kn kt a' 0 c' 5 w)
  rw [show ((0 : Nat) == 0 && decide ((kt.size : Int) ≤ 5)) = true from by simp; omega] at HL
  have hn2 : (kn.toList != name.toList) = false := by rw [bne, hn]; rfl
  have HA := Lib.hid (fun w => atoi_ok kt v (by omega) h w)
  have HI := Lib.hid (fun w hG => itoa_any v hv w hG)
  have HG := Lib.hid hG
  clear h hG
  unfold IntOK at hv
  obtain ⟨hv1, hv2⟩ := hv
  obtain ⟨I, hI⟩ : ∃ I, Hid (Lib.itoa v = I) := ⟨_, rfl⟩
  rw [hI.out] at HI hq
  have hq2 : (I != kt.toList) = true := by rw [bne, hq]; rfl
  go_enter Tryd.func51, Tryd.ntmps51
  go_wp2_with fail
  refine (HL.out _).mono ?_
  rintro e w1 ⟨rfl, hb1⟩
  have s1 := hb1.size
  simp at s1
  have d2 : w1.cell? ⟨w.heap.size, 2, none⟩ = some (.slice (some ⟨b, off, none⟩) 1 c) := cell_later hb1 (cell_new _ _ _ _ _ _ rfl rfl)
  have e1 : w1.cell? ⟨b, off + 1, none⟩ = some (.string kt) := cell_later hb1 (cell_past _ k1)
  have HB1 : Hid (Below w.heap.size w w1) := (below_alloc (Below.refl _ _) (Nat.le_refl _) _).trans (hb1.mono (by simp))
  clear hb1
  go_wp2_with fail
  refine (HA.out _).mono ?_
  rintro e w2 ⟨rfl, hb2⟩
  have s2 := hb2.size
  have HB2 : Hid (Below w.heap.size w w2) := HB1.out.trans (hb2.mono (by omega))
  have d3 : w2.cell? ⟨w.heap.size, 2, none⟩ = some (.slice (some ⟨b, off, none⟩) 1 c) := cell_later hb2 d2
  have e3 : w2.cell? ⟨b, off + 1, none⟩ = some (.string kt) := cell_later hb2 e1
  have g2 : Hid (Glob w2) := HG.out.later HB2.out
  have hbl : b < w2.heap.size := by omega
  have hwl : w.heap.size < w2.heap.size := by omega
  clear hb2 d2 e1
  have HIW : Hid (∀ nq, Calls Tryd.prog 22 #[.int .i64 v] (w2.drewN nq) fun e w' => e = .returned (.string ⟨I.toArray⟩) ∧ Below w2.heap.size w2 w') := fun nq => by
    refine (HI.out _ (g2.out.later (below_drewN (Below.refl _ _) _))).mono ?_
    rintro e w' ⟨he, hb⟩
    exact ⟨he, (below_drewN (Below.refl _ _) _).trans hb⟩
  go_wp2
  first | (go_region_with ((go_at_call 22; refine (HI.out _ ?_).mono ?_; exact g2.out.later (Below.drew (Below.refl _ _)); rintro e w3 ⟨rfl, hb3⟩; have d4 : w3.cell? ⟨w.heap.size, 2, none⟩ = some (.slice (some ⟨b, off, none⟩) 1 c) := cell_later hb3 d3; have e4 : w3.cell? ⟨b, off + 1, none⟩ = some (.string kt) := cell_later hb3 e3))) | fail
  all_goals
    have HB3 : Hid (Below w.heap.size w w3) := HB2.out.trans ((Below.refl _ _).drew.trans (Below.mono (show Below w2.heap.size w2.drew w3 from hb3) (by omega)))
    clear hb3
    go_wp2
    go_ret
    exact ⟨rfl, HB3.out⟩


end Go.Proofs.YtnnfcbebjbfkoaaDoor
