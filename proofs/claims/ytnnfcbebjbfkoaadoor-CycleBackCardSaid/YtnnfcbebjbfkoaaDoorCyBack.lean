/-
  The law CycleBack: the walk.
-/
import Derived.Test.YtnnfcbebjbfkoaaDoorCyEx
namespace Go.Proofs.YtnnfcbebjbfkoaaDoor
open Go.RowKit

set_option maxHeartbeats 1000000 in
set_option maxRecDepth 100000 in
theorem back_walk (t : Tree) (a : Option Addr) (c : Nat) (w : World) (hG : Glob w) (hl : t.kids.length ≤ 2513169434843) (hk : KidsIn w t.kids a 0) :
    Calls Tryd.prog 3 #[elemV t a c] w fun e w' => e = .returned (.bool true) ∧ Below w.heap.size w w' := by
  have HG := Lib.hid hG
  have HK := Lib.hid hk
  have HL := Lib.hid hl
  obtain ⟨o, ho⟩ : ∃ o, Hid (readOf t = o) := ⟨_, rfl⟩
  have HP := Lib.hid (read_tell t)
  have HR := Lib.hid (fun w hG hk => read_any t a c w hG hl hk)
  rw [ho.out] at HP HR
  obtain ⟨n, tx, ks⟩ := t
  simp only [Tree.name, Tree.text, Tree.kids, elemV] at *
  clear hG hk hl
  go_enter Tryd.func3, Tryd.ntmps3
  go_wp2_with fail
  refine (ex_walk _ (HG.out.later (below_alloc (Below.refl _ _) (Nat.le_refl _) _))).mono ?_
  rintro e w1 ⟨rfl, hb1⟩
  have s1 := hb1.size
  simp at s1
  have d0 : w1.cell? ⟨w.heap.size, 0, none⟩ = some (.string n) := cell_later hb1 (cell_new _ _ _ _ _ _ rfl rfl)
  have d1 : w1.cell? ⟨w.heap.size, 1, none⟩ = some (.string tx) := cell_later hb1 (cell_new _ _ _ _ _ _ rfl rfl)
  have d2 : w1.cell? ⟨w.heap.size, 2, none⟩ = some (.slice a ks.length c) := cell_later hb1 (cell_new _ _ _ _ _ _ rfl rfl)
  have B1 : Hid (Below w.heap.size w w1) := (below_alloc (Below.refl _ _) (Nat.le_refl _) _).trans (hb1.mono (by simp))
  clear hb1
  go_wp2_with fail
  refine (HR.out _ (HG.out.later B1.out) (KidsIn.later B1.out _ _ _ HK.out)).mono ?_
  rintro e w2 ⟨he, hb2⟩
  have B2 : Hid (Below w.heap.size w w2) := B1.out.trans (hb2.mono B1.out.size)
  cases o with
  | none =>
    simp only at he
    subst he
    clear hb2
    go_wp2
    go_ret
    exact ⟨rfl, B2.out⟩
  | some l =>
    obtain ⟨v, rfl, hown⟩ := he
    obtain ⟨hrt, hl1, hl2, hrd⟩ := HP.out l rfl
    have HRT := Lib.hid hrt
    have RI : Hid (RulesIn w2 v l) := RulesIn.of_own hown (by omega)
    obtain ⟨av, cv, rfl⟩ : ∃ a c, v = .slice a l.length c := by obtain ⟨a, c, h, _⟩ := RI.out; exact ⟨a, c, h⟩
    have HRD := Lib.hid hrd
    clear hb2 hown hrd hrt
    go_wp2_with fail
    refine (tell_walk l _ _ (HG.out.later B2.out) RI.out (fun r hr => ?i1) (fun r hr => ?i2) (by omega)).mono ?_
    case i1 =>
      have hd : ∀ n, DayOK n → IntOK n := fun n h => by unfold IntOK; rcases h with h | ⟨h1, h2, _⟩ <;> omega
      obtain ⟨_, _, h3, h4, h5⟩ := HRD.out r hr
      exact ⟨hd _ h3, hd _ h4, hd _ h5⟩
    case i2 =>
      obtain ⟨h1, h2, _⟩ := HRD.out r hr
      unfold maxRead; omega
    rintro e w3 ⟨x3, y3, z3, rfl, ht3, hb3⟩
    have B3 : Hid (Below w.heap.size w w3) := B2.out.trans (hb3.mono B2.out.size)
    have R3 : Hid (RulesIn w3 (.slice av l.length cv) l) := RI.out.later hb3
    obtain ⟨rfl, rfl, _, _, hl3, a3, c3, rfl, hk3⟩ := ht3.cells
    have HK3 := Lib.hid hk3
    have HL3 := Lib.hid hl3
    clear hb3 ht3 hk3 hl3
    go_wp2_with fail
    refine Calls.mono (read_any (tellT l) a3 c3 _ (HG.out.later B3.out) HL3.out HK3.out) ?_
    rw [HRT.out]
    rintro e w4 ⟨⟨v4, rfl, ho4⟩, hb4⟩
    have B4 : Hid (Below w.heap.size w w4) := B3.out.trans (hb4.mono B3.out.size)
    have R4 : Hid (RulesIn w4 (.slice av l.length cv) l) := R3.out.later hb4
    have RJ : Hid (RulesIn w4 v4 l) := RulesIn.of_own ho4 (by omega)
    clear hb4 ho4
    go_wp2_with fail
    refine (same_any l _ _ _ R4.out RJ.out).mono ?_
    rintro e w5 ⟨rfl, hb5⟩
    have B5 : Hid (Below w.heap.size w w5) := B4.out.trans (hb5.mono B4.out.size)
    clear hb5
    go_wp2
    go_ret
    exact ⟨by simp; omega, B5.out⟩

end Go.Proofs.YtnnfcbebjbfkoaaDoor
