/-
  part: the walks, further kinds.
-/
import Derived.Test.YtnnfcbebjbfkoaaDoorCyPart
namespace Go.Proofs.YtnnfcbebjbfkoaaDoor
open Go.RowKit

theorem days_mk (t : Tree) (a : Option Addr) (c : Nat) (l : List UInt8) (w : World) (hG : Glob w) (_hl : t.kids.length ≤ 2513169434843) (hk : KidsIn w t.kids a 0) :
    Calls Tryd.prog 51 #[elemV t a c, .string ⟨l.toArray⟩] w fun e w' => e = .returned (.int .i64 (daysOf t l)) ∧ Below w.heap.size w w' := by
  have := days_any t a c ⟨l.toArray⟩ w hG hk
  rw [ByteArray.toList_mk] at this
  exact this

set_option maxRecDepth 100000 in
set_option maxHeartbeats 400000 in
theorem part_exp (r : RuleV) (k : Tree) (a : Option Addr) (c g : Nat) (w : World) (hG : Glob w) (hl : k.kids.length ≤ 2513169434843) (hk : KidsIn w k.kids a 0)
    (hn : k.name.toList = tExp) (hr : w.heap[g]? = some (.cells r.cells.toArray 34 (0, 0))) :
    Calls Tryd.prog 39 #[.pointer (some ⟨g, 0, none⟩), elemV k a c] w (PartPost ({ r with days := daysOf k tDays }, decide (0 < daysOf k tDays)) g w) := by
  obtain ⟨n, t, ks⟩ := k
  simp only [Tree.name, Tree.text, Tree.kids, elemV] at *
  have m0 : (n.toList == [73, 68]) = false := by rw [hn]; rfl
  have m1 : (n.toList == [83, 116, 97, 116, 117, 115]) = false := by rw [hn]; rfl
  have m2 : (n.toList == [70, 105, 108, 116, 101, 114]) = false := by rw [hn]; rfl
  have m3 : (n.toList == [69, 120, 112, 105, 114, 97, 116, 105, 111, 110]) = true := by rw [hn]; rfl
  have m4 : (n.toList == [78, 111, 110, 99, 117, 114, 114, 101, 110, 116, 86, 101, 114, 115, 105, 111, 110, 69, 120, 112, 105, 114, 97, 116, 105, 111, 110]) = false := by rw [hn]; rfl
  have m5 : (n.toList == [65, 98, 111, 114, 116, 73, 110, 99, 111, 109, 112, 108, 101, 116, 101, 77, 117, 108, 116, 105, 112, 97, 114, 116, 85, 112, 108, 111, 97, 100]) = false := by rw [hn]; rfl
  have hg : g < w.heap.size := (Array.getElem?_eq_some_iff.1 hr).1
  have ne1 : w.heap.size ≠ g := by omega
  have HR := Lib.hid hr
  have HD := Lib.hid (fun w hG hk => days_mk (.node n t ks) a c tDays w hG hl hk)
  obtain ⟨D, hD⟩ : ∃ D, Hid (daysOf (.node n t ks) tDays = D) := ⟨_, rfl⟩
  have hbd := daysOf_bd (.node n t ks) tDays
  rw [hD.out] at HD hbd ⊢
  obtain ⟨hb1, hb2⟩ := hbd
  have HG := Lib.hid hG
  have HK := Lib.hid hk
  clear hr hG hk hn
  by_cases h0 : 0 < D
  all_goals
    go_enter Tryd.func39, Tryd.ntmps39
    go_wp2_with fail
    refine (HD.out _ (HG.out.later (below_alloc (Below.refl _ _) (Nat.le_refl _) _)) (KidsIn.later (below_alloc (Below.refl _ _) (Nat.le_refl _) _) _ _ _ HK.out)).mono ?_
    rintro e w1 ⟨rfl, hb1⟩
    have hs := hb1.size
    simp at hs
    have ne2 : g ≠ w.heap.size := by omega
    have R1 : Hid (w1.heap[g]? = some (.cells r.cells.toArray 34 (0, 0))) := by
      show _ = _
      rw [hb1.block _ (by simp; omega), Below.heap_alloc _ _ _ hg]; exact HR.out
    have c0 := cell_of_heap (x := 3) R1.out
    have f0 := free_of_heap (x := 3) R1.out
    simp [RuleV.cells] at c0
    have d0 : w1.cell? ⟨w.heap.size, 0, none⟩ = some (.string n) := by rw [hb1.cell (by simp)]; exact cell_new _ _ _ _ _ _ rfl rfl
    have HB : Hid (Below w.heap.size w w1) := (below_alloc (Below.refl _ _) (Nat.le_refl _) _).trans (hb1.mono (by simp))
    clear hb1
    go_wp2
    go_ret
    refine ⟨by simp [h0], PartOut.set (r := r) HR.out HB.out ?_⟩
    simp [RuleV.cells]

set_option maxRecDepth 100000 in
set_option maxHeartbeats 400000 in
theorem part_non (r : RuleV) (k : Tree) (a : Option Addr) (c g : Nat) (w : World) (hG : Glob w) (hl : k.kids.length ≤ 2513169434843) (hk : KidsIn w k.kids a 0)
    (hn : k.name.toList = tNon) (hr : w.heap[g]? = some (.cells r.cells.toArray 34 (0, 0))) :
    Calls Tryd.prog 39 #[.pointer (some ⟨g, 0, none⟩), elemV k a c] w (PartPost ({ r with nonc := daysOf k tNonDays }, decide (0 < daysOf k tNonDays)) g w) := by
  obtain ⟨n, t, ks⟩ := k
  simp only [Tree.name, Tree.text, Tree.kids, elemV] at *
  have m0 : (n.toList == [73, 68]) = false := by rw [hn]; rfl
  have m1 : (n.toList == [83, 116, 97, 116, 117, 115]) = false := by rw [hn]; rfl
  have m2 : (n.toList == [70, 105, 108, 116, 101, 114]) = false := by rw [hn]; rfl
  have m3 : (n.toList == [69, 120, 112, 105, 114, 97, 116, 105, 111, 110]) = false := by rw [hn]; rfl
  have m4 : (n.toList == [78, 111, 110, 99, 117, 114, 114, 101, 110, 116, 86, 101, 114, 115, 105, 111, 110, 69, 120, 112, 105, 114, 97, 116, 105, 111, 110]) = true := by rw [hn]; rfl
  have m5 : (n.toList == [65, 98, 111, 114, 116, 73, 110, 99, 111, 109, 112, 108, 101, 116, 101, 77, 117, 108, 116, 105, 112, 97, 114, 116, 85, 112, 108, 111, 97, 100]) = false := by rw [hn]; rfl
  have hg : g < w.heap.size := (Array.getElem?_eq_some_iff.1 hr).1
  have ne1 : w.heap.size ≠ g := by omega
  have HR := Lib.hid hr
  have HD := Lib.hid (fun w hG hk => days_mk (.node n t ks) a c tNonDays w hG hl hk)
  obtain ⟨D, hD⟩ : ∃ D, Hid (daysOf (.node n t ks) tNonDays = D) := ⟨_, rfl⟩
  have hbd := daysOf_bd (.node n t ks) tNonDays
  rw [hD.out] at HD hbd ⊢
  obtain ⟨hb1, hb2⟩ := hbd
  have HG := Lib.hid hG
  have HK := Lib.hid hk
  clear hr hG hk hn
  by_cases h0 : 0 < D
  all_goals
    go_enter Tryd.func39, Tryd.ntmps39
    go_wp2_with fail
    refine (HD.out _ (HG.out.later (below_alloc (Below.refl _ _) (Nat.le_refl _) _)) (KidsIn.later (below_alloc (Below.refl _ _) (Nat.le_refl _) _) _ _ _ HK.out)).mono ?_
    rintro e w1 ⟨rfl, hb1⟩
    have hs := hb1.size
    simp at hs
    have ne2 : g ≠ w.heap.size := by omega
    have R1 : Hid (w1.heap[g]? = some (.cells r.cells.toArray 34 (0, 0))) := by
      show _ = _
      rw [hb1.block _ (by simp; omega), Below.heap_alloc _ _ _ hg]; exact HR.out
    have c0 := cell_of_heap (x := 4) R1.out
    have f0 := free_of_heap (x := 4) R1.out
    simp [RuleV.cells] at c0
    have d0 : w1.cell? ⟨w.heap.size, 0, none⟩ = some (.string n) := by rw [hb1.cell (by simp)]; exact cell_new _ _ _ _ _ _ rfl rfl
    have HB : Hid (Below w.heap.size w w1) := (below_alloc (Below.refl _ _) (Nat.le_refl _) _).trans (hb1.mono (by simp))
    clear hb1
    go_wp2
    go_ret
    refine ⟨by simp [h0], PartOut.set (r := r) HR.out HB.out ?_⟩
    simp [RuleV.cells]

set_option maxRecDepth 100000 in
set_option maxHeartbeats 400000 in
theorem part_abort (r : RuleV) (k : Tree) (a : Option Addr) (c g : Nat) (w : World) (hG : Glob w) (hl : k.kids.length ≤ 2513169434843) (hk : KidsIn w k.kids a 0)
    (hn : k.name.toList = tAbort) (hr : w.heap[g]? = some (.cells r.cells.toArray 34 (0, 0))) :
    Calls Tryd.prog 39 #[.pointer (some ⟨g, 0, none⟩), elemV k a c] w (PartPost ({ r with abort := daysOf k tAfter }, decide (0 < daysOf k tAfter)) g w) := by
  obtain ⟨n, t, ks⟩ := k
  simp only [Tree.name, Tree.text, Tree.kids, elemV] at *
  have m0 : (n.toList == [73, 68]) = false := by rw [hn]; rfl
  have m1 : (n.toList == [83, 116, 97, 116, 117, 115]) = false := by rw [hn]; rfl
  have m2 : (n.toList == [70, 105, 108, 116, 101, 114]) = false := by rw [hn]; rfl
  have m3 : (n.toList == [69, 120, 112, 105, 114, 97, 116, 105, 111, 110]) = false := by rw [hn]; rfl
  have m4 : (n.toList == [78, 111, 110, 99, 117, 114, 114, 101, 110, 116, 86, 101, 114, 115, 105, 111, 110, 69, 120, 112, 105, 114, 97, 116, 105, 111, 110]) = false := by rw [hn]; rfl
  have m5 : (n.toList == [65, 98, 111, 114, 116, 73, 110, 99, 111, 109, 112, 108, 101, 116, 101, 77, 117, 108, 116, 105, 112, 97, 114, 116, 85, 112, 108, 111, 97, 100]) = true := by rw [hn]; rfl
  have hg : g < w.heap.size := (Array.getElem?_eq_some_iff.1 hr).1
  have ne1 : w.heap.size ≠ g := by omega
  have HR := Lib.hid hr
  have HD := Lib.hid (fun w hG hk => days_mk (.node n t ks) a c tAfter w hG hl hk)
  obtain ⟨D, hD⟩ : ∃ D, Hid (daysOf (.node n t ks) tAfter = D) := ⟨_, rfl⟩
  have hbd := daysOf_bd (.node n t ks) tAfter
  rw [hD.out] at HD hbd ⊢
  obtain ⟨hb1, hb2⟩ := hbd
  have HG := Lib.hid hG
  have HK := Lib.hid hk
  clear hr hG hk hn
  by_cases h0 : 0 < D
  all_goals
    go_enter Tryd.func39, Tryd.ntmps39
    go_wp2_with fail
    refine (HD.out _ (HG.out.later (below_alloc (Below.refl _ _) (Nat.le_refl _) _)) (KidsIn.later (below_alloc (Below.refl _ _) (Nat.le_refl _) _) _ _ _ HK.out)).mono ?_
    rintro e w1 ⟨rfl, hb1⟩
    have hs := hb1.size
    simp at hs
    have ne2 : g ≠ w.heap.size := by omega
    have R1 : Hid (w1.heap[g]? = some (.cells r.cells.toArray 34 (0, 0))) := by
      show _ = _
      rw [hb1.block _ (by simp; omega), Below.heap_alloc _ _ _ hg]; exact HR.out
    have c0 := cell_of_heap (x := 5) R1.out
    have f0 := free_of_heap (x := 5) R1.out
    simp [RuleV.cells] at c0
    have d0 : w1.cell? ⟨w.heap.size, 0, none⟩ = some (.string n) := by rw [hb1.cell (by simp)]; exact cell_new _ _ _ _ _ _ rfl rfl
    have HB : Hid (Below w.heap.size w w1) := (below_alloc (Below.refl _ _) (Nat.le_refl _) _).trans (hb1.mono (by simp))
    clear hb1
    go_wp2
    go_ret
    refine ⟨by simp [h0], PartOut.set (r := r) HR.out HB.out ?_⟩
    simp [RuleV.cells]

set_option maxRecDepth 100000 in
set_option maxHeartbeats 400000 in
theorem part_none (r : RuleV) (k : Tree) (a : Option Addr) (c g : Nat) (w : World)
    (m0 : (k.name.toList == tID) = false) (m1 : (k.name.toList == tStatus) = false) (m2 : (k.name.toList == tFilter) = false) (m3 : (k.name.toList == tExp) = false) (m4 : (k.name.toList == tNon) = false) (m5 : (k.name.toList == tAbort) = false)
    (hr : w.heap[g]? = some (.cells r.cells.toArray 34 (0, 0))) :
    Calls Tryd.prog 39 #[.pointer (some ⟨g, 0, none⟩), elemV k a c] w (PartPost (r, false) g w) := by
  obtain ⟨n, t, ks⟩ := k
  simp only [Tree.name, Tree.text, Tree.kids, elemV] at *
  unfold tID at m0; unfold tStatus at m1; unfold tFilter at m2; unfold tExp at m3; unfold tNon at m4; unfold tAbort at m5
  have HR := Lib.hid hr
  clear hr
  go_enter Tryd.func39, Tryd.ntmps39
  go_wp2
  go_ret
  exact ⟨rfl, PartOut.same HR.out (below_alloc (Below.refl _ _) (Nat.le_refl _) _)⟩

set_option maxRecDepth 100000 in
set_option maxHeartbeats 400000 in
theorem part_filter_no (r : RuleV) (k : Tree) (a : Option Addr) (c g : Nat) (w : World) (hl : k.kids.length ≤ 2513169434843)
    (hn : k.name.toList = tFilter) (hx : k.text.toList.isEmpty = false ∨ 2 ≤ k.kids.length) (hr : w.heap[g]? = some (.cells r.cells.toArray 34 (0, 0))) :
    Calls Tryd.prog 39 #[.pointer (some ⟨g, 0, none⟩), elemV k a c] w (PartPost (r, false) g w) := by
  obtain ⟨n, t, ks⟩ := k
  simp only [Tree.name, Tree.text, Tree.kids, elemV] at *
  have m0 : (n.toList == [73, 68]) = false := by rw [hn]; rfl
  have m1 : (n.toList == [83, 116, 97, 116, 117, 115]) = false := by rw [hn]; rfl
  have m2 : (n.toList == [70, 105, 108, 116, 101, 114]) = true := by rw [hn]; rfl
  have HR := Lib.hid hr
  clear hr hn
  generalize hL : ks.length = L at *
  clear hL
  by_cases ht : t.toList = []
  · have hx2 : 2 ≤ L := by
      rcases hx with h | h
      · rw [ht] at h; simp at h
      · exact h
    clear hx
    go_enter Tryd.func39, Tryd.ntmps39
    go_wp2
    go_ret
    exact ⟨rfl, PartOut.same HR.out (below_alloc (Below.refl _ _) (Nat.le_refl _) _)⟩
  · clear hx
    go_enter Tryd.func39, Tryd.ntmps39
    go_wp2
    go_ret
    exact ⟨rfl, PartOut.same HR.out (below_alloc (Below.refl _ _) (Nat.le_refl _) _)⟩

set_option maxRecDepth 100000 in
set_option maxHeartbeats 400000 in
theorem part_filter_nil (r : RuleV) (k : Tree) (a : Option Addr) (c g : Nat) (w : World) (hk : k.kids = [])
    (hn : k.name.toList = tFilter) (ht : k.text.toList = []) (hr : w.heap[g]? = some (.cells r.cells.toArray 34 (0, 0))) :
    Calls Tryd.prog 39 #[.pointer (some ⟨g, 0, none⟩), elemV k a c] w (PartPost (r, true) g w) := by
  obtain ⟨n, t, ks⟩ := k
  simp only [Tree.name, Tree.text, Tree.kids, elemV] at *
  subst hk
  have m0 : (n.toList == [73, 68]) = false := by rw [hn]; rfl
  have m1 : (n.toList == [83, 116, 97, 116, 117, 115]) = false := by rw [hn]; rfl
  have m2 : (n.toList == [70, 105, 108, 116, 101, 114]) = true := by rw [hn]; rfl
  have HR := Lib.hid hr
  clear hr hn
  go_enter Tryd.func39, Tryd.ntmps39
  go_wp2
  refine wp_loop_rounds 1 ?_
  rw [rounds_succ]
  go_wp2
  go_ret
  exact ⟨rfl, PartOut.same HR.out (below_alloc (Below.refl _ _) (Nat.le_refl _) _)⟩

set_option maxRecDepth 100000 in
set_option maxHeartbeats 400000 in
theorem part_filter_one (r : RuleV) (k p : Tree) (a : Option Addr) (c g : Nat) (w : World) (hp : k.kids = [p]) (hk : KidsIn w k.kids a 0)
    (hn : k.name.toList = tFilter) (ht : k.text.toList = []) (hr : w.heap[g]? = some (.cells r.cells.toArray 34 (0, 0))) :
    Calls Tryd.prog 39 #[.pointer (some ⟨g, 0, none⟩), elemV k a c] w (PartPost ({ r with pre := p.text }, p.name.toList == tPrefix && leafB p 100) g w) := by
  obtain ⟨n, t, ks⟩ := k
  simp only [Tree.name, Tree.text, Tree.kids, elemV] at *
  subst hp
  have m0 : (n.toList == [73, 68]) = false := by rw [hn]; rfl
  have m1 : (n.toList == [83, 116, 97, 116, 117, 115]) = false := by rw [hn]; rfl
  have m2 : (n.toList == [70, 105, 108, 116, 101, 114]) = true := by rw [hn]; rfl
  obtain ⟨b, off, a', c', rfl, k0, k1, k2, _, _, hkl, _, _⟩ := hk.kid (j := 0) rfl
  simp only [Nat.zero_mul, Nat.add_zero] at k0 k1 k2
  have hg : g < w.heap.size := (Array.getElem?_eq_some_iff.1 hr).1
  have hb : b < w.heap.size := World.block_lt_of_cell? w _ k0
  have ne1 : w.heap.size ≠ g := by omega
  have ne2 : w.heap.size + 1 ≠ g := by omega
  have HR := Lib.hid hr
  have c0 := cell_of_heap (x := 1) hr
  have f0 := free_of_heap (x := 1) hr
  simp [RuleV.cells] at c0
  have HL := Lib.hid (fun w => leaf_any p a' c' 100 w)
  obtain ⟨L, hL⟩ : ∃ L, Hid (leafB p 100 = L) := ⟨_, rfl⟩
  rw [hL.out] at HL ⊢
  obtain ⟨pn, pt, pk⟩ := p
  simp only [Tree.name, Tree.text, Tree.kids, elemV] at *
  unfold tPrefix
  clear hr hn hk
  have HF : Hid (∀ w1, Below w.heap.size w w1 → PartOut w (w1.setCell ⟨g, 1, none⟩ (.string pt)) g { r with pre := pt }) := fun w1 hb1 =>
    PartOut.set (x := 1) (v := .string pt) (r := r) (r' := { r with pre := pt }) HR.out hb1 (by simp [RuleV.cells])
  cases hpn : (pn.toList == [80, 114, 101, 102, 105, 120])
  · go_enter Tryd.func39, Tryd.ntmps39
    go_wp2
    refine wp_loop_rounds 1 ?_
    rw [rounds_succ]
    go_wp2
    go_ret
    refine ⟨rfl, ?_⟩
    first | exact HF.out _ (by repeat (first | exact Below.refl _ _ | assumption | (refine below_drewN ?_ _) | (refine Below.alloc ?_ (by first | (simp; done) | (simp; omega) | omega) _) | (refine Below.setCell ?_ (by first | (simp; done) | (simp; omega) | omega) _))) | (rw [set_alloc _ _ _ _ (by simp; omega)]; exact HF.out _ (by repeat (first | exact Below.refl _ _ | assumption | (refine below_drewN ?_ _) | (refine Below.alloc ?_ (by first | (simp; done) | (simp; omega) | omega) _) | (refine Below.setCell ?_ (by first | (simp; done) | (simp; omega) | omega) _)))) | (rw [set_alloc _ _ _ _ (by simp; omega), set_alloc _ _ _ _ (by simp; omega)]; exact HF.out _ (by repeat (first | exact Below.refl _ _ | assumption | (refine below_drewN ?_ _) | (refine Below.alloc ?_ (by first | (simp; done) | (simp; omega) | omega) _) | (refine Below.setCell ?_ (by first | (simp; done) | (simp; omega) | omega) _))))
  · cases L
    · go_enter Tryd.func39, Tryd.ntmps39
      go_wp2
      refine wp_loop_rounds 2 ?_
      rw [rounds_succ]
      go_wp2_with fail
      refine (HL.out _).mono ?_
      rintro e w1 ⟨rfl, hb1⟩
      have HO : Hid (PartOut w w1 g { r with pre := pt }) := by
        refine (HF.out ((w.alloc (.cells #[.string n, .string t, .slice (some ⟨b, off, none⟩) 1 c] 24)).alloc (.cells #[.string pn, .string pt, .slice a' pk.length c'] 24)) (below_alloc (below_alloc (Below.refl _ _) (Nat.le_refl _) _) (Nat.le_refl _) _)).later ?_
        rw [← set_alloc _ _ _ _ (by simp; omega), ← set_alloc _ _ _ _ (by simp; omega)]
        exact hb1
      clear hb1
      go_wp2
      go_ret
      exact ⟨by simp, HO.out⟩
    · go_enter Tryd.func39, Tryd.ntmps39
      go_wp2
      refine wp_loop_rounds 2 ?_
      rw [rounds_succ]
      go_wp2_with fail
      refine (HL.out _).mono ?_
      rintro e w1 ⟨rfl, hb1⟩
      have HO : Hid (PartOut w w1 g { r with pre := pt }) := by
        refine (HF.out ((w.alloc (.cells #[.string n, .string t, .slice (some ⟨b, off, none⟩) 1 c] 24)).alloc (.cells #[.string pn, .string pt, .slice a' pk.length c'] 24)) (below_alloc (below_alloc (Below.refl _ _) (Nat.le_refl _) _) (Nat.le_refl _) _)).later ?_
        rw [← set_alloc _ _ _ _ (by simp; omega), ← set_alloc _ _ _ _ (by simp; omega)]
        exact hb1
      clear hb1
      go_wp2
      rw [rounds_succ]
      go_wp2
      go_ret
      exact ⟨by simp, HO.out⟩

/-- part, at whatever kid -/
theorem part_any (r : RuleV) (k : Tree) (a : Option Addr) (c g : Nat) (w : World) (hG : Glob w) (hl : k.kids.length ≤ 2513169434843) (hk : KidsIn w k.kids a 0)
    (hr : w.heap[g]? = some (.cells r.cells.toArray 34 (0, 0))) :
    Calls Tryd.prog 39 #[.pointer (some ⟨g, 0, none⟩), elemV k a c] w (PartPost (partV r k) g w) := by
  unfold partV
  cases h0 : (k.name.toList == tID)
  · cases h1 : (k.name.toList == tStatus)
    · cases h2 : (k.name.toList == tFilter)
      · cases h3 : (k.name.toList == tExp)
        · cases h4 : (k.name.toList == tNon)
          · cases h5 : (k.name.toList == tAbort)
            · exact part_none r k a c g w h0 h1 h2 h3 h4 h5 hr
            · exact part_abort r k a c g w hG hl hk (eq_of_beq h5) hr
          · exact part_non r k a c g w hG hl hk (eq_of_beq h4) hr
        · exact part_exp r k a c g w hG hl hk (eq_of_beq h3) hr
      · cases ht : k.text.toList.isEmpty
        · exact part_filter_no r k a c g w hl (eq_of_beq h2) (.inl ht) hr
        · have ht' : k.text.toList = [] := by simpa using ht
          match hks : k.kids with
          | [] => exact part_filter_nil r k a c g w hks (eq_of_beq h2) ht' hr
          | [p] => exact part_filter_one r k p a c g w hks hk (eq_of_beq h2) ht' hr
          | p :: q :: l => exact part_filter_no r k a c g w hl (eq_of_beq h2) (.inr (by rw [hks]; simp)) hr
    · exact part_status r k a c g w h0 h1 hr
  · exact part_id r k a c g w h0 hr

end Go.Proofs.YtnnfcbebjbfkoaaDoor
