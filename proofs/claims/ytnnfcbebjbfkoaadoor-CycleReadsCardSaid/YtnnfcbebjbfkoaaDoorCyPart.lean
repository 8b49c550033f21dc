/-
  part: the walks, a kind of kid each.
-/
import Derived.Test.YtnnfcbebjbfkoaaDoorCyDays
namespace Go.Proofs.YtnnfcbebjbfkoaaDoor
open Go.RowKit

theorem grown_refl (w : World) (row : Option Nat) : w.grownBy w row := ⟨rfl, rfl, rfl, Nat.le_refl _, fun _ _ _ => rfl⟩
theorem grown_trans {a b c : World} {row : Option Nat} (h : a.grownBy b row) (k : b.grownBy c row) : a.grownBy c row :=
  ⟨k.os.trans h.os, k.tape.trans h.tape, k.output.trans h.output, Nat.le_trans h.size k.size, fun i hi hr => (k.block i (Nat.lt_of_lt_of_le hi h.size) hr).trans (h.block i hi hr)⟩
theorem grown_below {w w' : World} (row : Option Nat) (h : Below w.heap.size w w') : w.grownBy w' row := ⟨h.os, h.tape, h.output, h.size, fun k hk _ => h.block k hk⟩
theorem grown_set (w : World) (g x : Nat) (v : Value) : w.grownBy (w.setCell ⟨g, x, none⟩ v) (some g) :=
  ⟨rfl, rfl, rfl, by simp [World.setCell], fun k _ hr => Below.heap_setCell _ _ _ _ (fun h => hr (by rw [h]))⟩

theorem cell_far (w : World) (p a : Addr) (v : Value) (h : p.block ≠ a.block) : (w.setCell p v).cell? a = w.cell? a :=
  World.cell?_of_block (w := w) (Below.heap_setCell w p v a.block (fun e => h e.symm))

/-- what part leaves: the rule's row is another, nothing else -/
structure PartOut (w w' : World) (g : Nat) (r : RuleV) : Prop where
  row : w'.heap[g]? = some (.cells r.cells.toArray 34 (0, 0))
  grown : w.grownBy w' (some g)
def PartPost (o : RuleV × Bool) (g : Nat) (w : World) (e : Ending) (w' : World) : Prop := e = .returned (.bool o.2) ∧ PartOut w w' g o.1

theorem PartOut.same {w w' : World} {g : Nat} {r : RuleV} (h : w.heap[g]? = some (.cells r.cells.toArray 34 (0, 0))) (hb : Below w.heap.size w w') : PartOut w w' g r :=
  ⟨by rw [hb.block g (Array.getElem?_eq_some_iff.1 h).1]; exact h, grown_below _ hb⟩
theorem PartOut.set {w w1 : World} {g x : Nat} {r r' : RuleV} {v : Value} (h : w.heap[g]? = some (.cells r.cells.toArray 34 (0, 0))) (hb : Below w.heap.size w w1) (e : r.cells.toArray.setIfInBounds x v = r'.cells.toArray) :
    PartOut w (w1.setCell ⟨g, x, none⟩ v) g r' :=
  ⟨by rw [heap_set (by rw [hb.block g (Array.getElem?_eq_some_iff.1 h).1]; exact h), e], grown_trans (grown_below _ hb) (grown_set _ _ _ _)⟩
theorem PartOut.later {w w1 w2 : World} {g : Nat} {r : RuleV} (h : PartOut w w1 g r) (hb : Below w1.heap.size w1 w2) : PartOut w w2 g r :=
  ⟨by rw [hb.block g (Array.getElem?_eq_some_iff.1 h.row).1]; exact h.row, grown_trans h.grown (grown_below _ hb)⟩
/-- a store into the row ahead of a new block: the walk writes it so -/
theorem set_alloc (w : World) (a : Addr) (v : Value) (o : Obj) (h : a.block < w.heap.size) : (w.setCell a v).alloc o = (w.alloc o).setCell a v := by
  unfold World.setCell World.alloc
  congr 1
  apply Array.ext_getElem?
  intro i
  simp only [Array.getElem?_modify, Array.getElem?_push, Array.size_modify]
  by_cases h1 : i = w.heap.size
  · subst h1
    rw [if_pos rfl, if_neg (by omega), if_pos rfl]
  · rw [if_neg h1, if_neg h1]

set_option maxRecDepth 100000 in
set_option maxHeartbeats 400000 in
theorem part_id (r : RuleV) (k : Tree) (a : Option Addr) (c g : Nat) (w : World) (hn : (k.name.toList == [73, 68]) = true) (hr : w.heap[g]? = some (.cells r.cells.toArray 34 (0, 0))) :
    Calls Tryd.prog 39 #[.pointer (some ⟨g, 0, none⟩), elemV k a c] w (PartPost ({ r with id := k.text }, leafB k 100) g w) := by
  obtain ⟨n, t, ks⟩ := k
  simp only [Tree.name, Tree.text, Tree.kids, elemV] at *
  have hg : g < w.heap.size := (Array.getElem?_eq_some_iff.1 hr).1
  have ne1 : w.heap.size ≠ g := by omega
  have c0 := cell_of_heap (x := 0) hr
  have f0 := free_of_heap (x := 0) hr
  simp [RuleV.cells] at c0
  have HR := Lib.hid hr
  clear hr
  go_enter Tryd.func39, Tryd.ntmps39
  go_wp2_with fail
  refine (leaf_any (.node n t ks) _ _ _ _).mono ?_
  rintro e w1 ⟨rfl, hb1⟩
  go_wp2
  go_ret
  refine ⟨rfl, ?_⟩
  rw [set_alloc _ _ _ _ hg] at hb1
  refine (PartOut.set (r := r) (r' := { r with id := t }) HR.out (below_alloc (Below.refl _ _) (Nat.le_refl _) _) ?_).later hb1
  simp [RuleV.cells]


set_option maxRecDepth 100000 in
set_option maxHeartbeats 400000 in
theorem part_status (r : RuleV) (k : Tree) (a : Option Addr) (c g : Nat) (w : World) (hn0 : (k.name.toList == [73, 68]) = false) (hn : (k.name.toList == [83, 116, 97, 116, 117, 115]) = true) (hr : w.heap[g]? = some (.cells r.cells.toArray 34 (0, 0))) :
    Calls Tryd.prog 39 #[.pointer (some ⟨g, 0, none⟩), elemV k a c] w (PartPost ({ r with on := k.text.toList == tEnabled }, leafB k 100 && (k.text.toList == tEnabled || k.text.toList == tDisabled)) g w) := by
  obtain ⟨n, t, ks⟩ := k
  simp only [Tree.name, Tree.text, Tree.kids, elemV] at *
  have hg : g < w.heap.size := (Array.getElem?_eq_some_iff.1 hr).1
  have ne1 : w.heap.size ≠ g := by omega
  have c0 := cell_of_heap (x := 2) hr
  have f0 := free_of_heap (x := 2) hr
  simp [RuleV.cells] at c0
  have HR := Lib.hid hr
  clear hr
  have HL := Lib.hid (fun w => leaf_any (.node n t ks) a c 100 w)
  obtain ⟨L, hL⟩ : ∃ L, Hid (leafB (.node n t ks) 100 = L) := ⟨_, rfl⟩
  rw [hL.out] at HL ⊢
  unfold tEnabled tDisabled
  obtain ⟨E, hE⟩ : ∃ E, Hid ((t.toList == [69, 110, 97, 98, 108, 101, 100]) = E) := ⟨_, rfl⟩
  obtain ⟨D, hD⟩ : ∃ D, Hid ((t.toList == [68, 105, 115, 97, 98, 108, 101, 100]) = D) := ⟨_, rfl⟩
  rw [hE.out, hD.out]
  have hE' := hE.out
  have hD' := hD.out
  have HF : Hid (∀ w1, Below (w.alloc (.cells #[.string n, .string t, .slice a ks.length c] 24)).heap.size ((w.alloc (.cells #[.string n, .string t, .slice a ks.length c] 24)).setCell ⟨g, 2, none⟩ (.bool E)) w1 → PartOut w w1 g { r with on := E }) := fun w1 hb1 =>
    (PartOut.set (x := 2) (v := .bool E) (r := r) (r' := { r with on := E }) HR.out (below_alloc (Below.refl _ _) (Nat.le_refl _) _) (by simp [RuleV.cells])).later (by simpa using hb1)
  cases E <;> cases L <;> cases D
  all_goals
    go_enter Tryd.func39, Tryd.ntmps39
    go_wp2_with fail
    refine (HL.out _).mono ?_
    rintro e w1 ⟨rfl, hb1⟩
    rw [set_alloc _ _ _ _ hg] at hb1
    have d1 : w1.cell? ⟨w.heap.size, 1, none⟩ = some (.string t) := by rw [hb1.cell (by simp)]; exact (cell_far _ _ _ _ (by simp; omega)).trans (cell_new _ _ _ _ _ _ rfl rfl)
    have d2 := cell_of_heap (x := 2) (HF.out _ (by simpa using hb1)).row
    simp [RuleV.cells] at d2
    have HO := Lib.hid (HF.out _ (by simpa using hb1))
    clear hb1
    go_wp2
    go_ret
    exact ⟨rfl, HO.out⟩

end Go.Proofs.YtnnfcbebjbfkoaaDoor
