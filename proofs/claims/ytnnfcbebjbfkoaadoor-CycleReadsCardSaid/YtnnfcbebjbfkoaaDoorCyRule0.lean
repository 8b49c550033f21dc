/-
  rule: the map of names that were seen.
-/
import Derived.Test.YtnnfcbebjbfkoaaDoorCyPart2
import Derived.Maps.OwnOps
import Derived.Maps.OwnSet
import Derived.StringKeys
import Derived.Deep.LoopGhost
import Derived.Deep.CutBlock
import Derived.Deep.RegionHeld3
import Derived.Outline
namespace Go.Proofs.YtnnfcbebjbfkoaaDoor
open Go.RowKit Go.Maps Go.WideMaps

theorem zeroInt (w : World) : (zeroValue 3).run Tryd.prog w = .ok (.int .i64 0) w := by kernel_rfl
theorem keyLaw : Keyed Tryd.prog 9 := string_keyed Tryd.underlying9

/-- the map b has the names, once each -/
def Seen (w : World) (b n : Nat) (names : List (List UInt8)) : Prop :=
  ∃ D : DataW Unit, w.ownsMap Tryd.prog 9 (plainElem Tryd.prog 3) b n D ∧ ∀ s, D.atKey (.string s) (.lit (.int .i64 0)) = .lit (.int .i64 (if names.contains s then 1 else 0))

theorem Seen.look {w : World} {b n : Nat} {names : List (List UInt8)} (h : Seen w b n names) (s : ByteArray) (hs : s.size ≤ maxRead) :
    (Instr.lookup 79 (.map (some b)) (.string s) false).run Tryd.prog w = .ok (.int .i64 (if names.contains s.toList then 1 else 0)) w := by
  obtain ⟨D, hD, hat⟩ := h
  obtain ⟨c, hrun, hc, _⟩ := hD.lookup_int keyLaw Tryd.underlying79 Tryd.underlying3 (zeroInt w) (keyOf_string_mk Tryd.underlying9 (s := s) (by unfold maxRead at hs; unfold maxLen; omega))
  rw [hat] at hc
  rw [hrun, ByteArray.toList_eq]
  simp only [DataW.lit.injEq, Lit.int.injEq, true_and] at hc
  rw [hc]

theorem Seen.alloc {w : World} {b n : Nat} {names : List (List UInt8)} (h : Seen w b n names) (o : Obj) : Seen (w.alloc o) b n names := by
  obtain ⟨D, hD, hat⟩ := h
  exact ⟨D, hD.alloc o, hat⟩
theorem Seen.kept {w w' : World} {b n : Nat} {names : List (List UInt8)} {row : Option Nat} (h : Seen w b n names) (hg : w.grownBy w' row) (hne : some b ≠ row) : Seen w' b n names := by
  obtain ⟨D, hD, hat⟩ := h
  exact ⟨D, hD.kept hg hne, hat⟩

theorem Seen.push {w w' : World} {b n : Nat} {names : List (List UInt8)} (s : ByteArray) {D : DataW Unit} (hD : w.ownsMap Tryd.prog 9 (plainElem Tryd.prog 3) b n D)
    (hat : ∀ s, D.atKey (.string s) (.lit (.int .i64 0)) = .lit (.int .i64 (if names.contains s then 1 else 0))) (h' : w'.ownsMap Tryd.prog 9 (plainElem Tryd.prog 3) b (n + 1) (D.put (.string s.data.toList) (.lit (.int .i64 1)))) :
    Seen w' b (n + 1) (names ++ [s.toList]) := by
  refine ⟨_, h', fun x => ?_⟩
  rw [ByteArray.toList_eq]
  by_cases hx : x = s.data.toList
  · subst hx
    rw [atKey_put_same hD.isMap (by simp [WideAt.IsKeyLit])]
    simp
  · rw [atKey_put_other (by simpa using hx), hat]
    simp [hx]

def RuleOut (o : Option RuleV) (w : World) (e : Ending) (w' : World) : Prop :=
  (match o with | some r => e = .returned (.tuple #[.agg r.cells.toArray, .bool true]) | none => ∃ r : RuleV, e = .returned (.tuple #[.agg r.cells.toArray, .bool false])) ∧ Below w.heap.size w w'

/-- what stays through all of rule -/
structure RuInv (w wr : World) (t : Tree) (a : Option Addr) (c : Nat) (r : RuleV) : Prop where
  below : Below w.heap.size w wr
  box : wr.heap[w.heap.size]? = some (.cells #[.string t.name, .string t.text, .slice a t.kids.length c] 24 (0, 0))
  res : wr.heap[w.heap.size + 1]? = some (.cells rule0.cells.toArray 34 (0, 0))
  row : wr.heap[w.heap.size + 2]? = some (.cells r.cells.toArray 34 (0, 0))

theorem RuInv.later {w wr wr' : World} {t : Tree} {a : Option Addr} {c : Nat} {r : RuleV} (h : RuInv w wr t a c r) (hb : Below wr.heap.size wr wr') : RuInv w wr' t a c r := by
  have h1 := (Array.getElem?_eq_some_iff.1 h.row).1
  exact ⟨h.below.trans (hb.mono (by omega)), by rw [hb.block _ (by omega)]; exact h.box, by rw [hb.block _ (by omega)]; exact h.res, by rw [hb.block _ h1]; exact h.row⟩
theorem RuInv.part {w wr wr' : World} {t : Tree} {a : Option Addr} {c : Nat} {r r' : RuleV} (h : RuInv w wr t a c r) (hb : PartOut wr wr' (w.heap.size + 2) r') : RuInv w wr' t a c r' := by
  have h1 := (Array.getElem?_eq_some_iff.1 h.row).1
  exact ⟨h.below.grown hb.grown (by omega) (fun k hk => by simp at hk; omega), by rw [hb.grown.block _ (by omega) (by simp)]; exact h.box, by rw [hb.grown.block _ (by omega) (by simp)]; exact h.res, hb.row⟩
theorem RuInv.map {w wr wr' : World} {t : Tree} {a : Option Addr} {c : Nat} {r : RuleV} (h : RuInv w wr t a c r) (hg : wr.grownBy wr' (some (w.heap.size + 3))) : RuInv w wr' t a c r := by
  have h1 := (Array.getElem?_eq_some_iff.1 h.row).1
  exact ⟨h.below.grown hg (by omega) (fun k hk => by simp at hk; omega), by rw [hg.block _ (by omega) (by simp)]; exact h.box, by rw [hg.block _ (by omega) (by simp)]; exact h.res, by rw [hg.block _ h1 (by simp)]; exact h.row⟩

def namesTo (ks : List Tree) (i : Nat) : List (List UInt8) := (ks.take i).map fun k => k.name.toList
theorem namesTo_succ {ks : List Tree} {i : Nat} {k : Tree} (h : ks[i]? = some k) : namesTo ks (i + 1) = namesTo ks i ++ [k.name.toList] := by
  unfold namesTo
  rw [List.take_add_one, h]
  simp
theorem drop_cons {α : Type} {l : List α} {i : Nat} {x : α} (h : l[i]? = some x) : l.drop i = x :: l.drop (i + 1) := by
  obtain ⟨hi, rfl⟩ := List.getElem?_eq_some_iff.1 h
  exact List.drop_eq_getElem_cons hi


theorem Seen.drew {w : World} {b n : Nat} {names : List (List UInt8)} (h : Seen w b n names) : Seen w.drew b n names := by
  obtain ⟨D, hD, hat⟩ := h
  exact ⟨D, hD.drew, hat⟩

/-- a rule is stored into a block -/
def six (w : World) (b : Nat) (r : RuleV) : World :=
  (((((w.setCell ⟨b, 0, none⟩ (.string r.id)).setCell ⟨b, 1, none⟩ (.string r.pre)).setCell ⟨b, 2, none⟩ (.bool r.on)).setCell ⟨b, 3, none⟩ (.int .i64 r.days)).setCell ⟨b, 4, none⟩ (.int .i64 r.nonc)).setCell ⟨b, 5, none⟩ (.int .i64 r.abort)
theorem six_heap {w : World} {b : Nat} (r : RuleV) (h : w.heap[b]? = some (.cells rule0.cells.toArray 34 (0, 0))) : (six w b r).heap[b]? = some (.cells r.cells.toArray 34 (0, 0)) :=
  heap_set (heap_set (heap_set (heap_set (heap_set (heap_set h _) _) _) _) _) _
theorem six_grown (w : World) (b : Nat) (r : RuleV) : w.grownBy (six w b r) (some b) :=
  grown_trans (grown_trans (grown_trans (grown_trans (grown_trans (grown_set _ _ _ _) (grown_set _ _ _ _)) (grown_set _ _ _ _)) (grown_set _ _ _ _)) (grown_set _ _ _ _)) (grown_set _ _ _ _)

theorem cell_far6 (w : World) (b : Nat) (r : RuleV) (a : Addr) (h : b ≠ a.block) : (six w b r).cell? a = w.cell? a := by
  unfold six
  rw [cell_far _ _ _ _ h, cell_far _ _ _ _ h, cell_far _ _ _ _ h, cell_far _ _ _ _ h, cell_far _ _ _ _ h, cell_far _ _ _ _ h]

theorem drew_heap (W : World) : W.drew.heap = W.heap := rfl
theorem drew_cell (W : World) (a : Addr) : W.drew.cell? a = W.cell? a := World.cell?_of_block (w := W) (by rw [drew_heap])
theorem six_cell {w : World} {b : Nat} {a : Addr} {v : Value} (r : RuleV) (h : w.cell? a = some v) (hb : b ≠ a.block) : (six w b r).drew.cell? a = some v :=
  (drew_cell _ _).trans ((cell_far6 w b r a hb).trans h)

/-- a rule's numbers are days -/
def RuBd (r : RuleV) : Prop := (0 ≤ r.days ∧ r.days ≤ 36500) ∧ (0 ≤ r.nonc ∧ r.nonc ≤ 36500) ∧ (0 ≤ r.abort ∧ r.abort ≤ 36500)
theorem partV_bd {r : RuleV} (k : Tree) (h : RuBd r) : RuBd (partV r k).1 := by
  have h1 := daysOf_bd k tDays
  have h2 := daysOf_bd k tNonDays
  have h3 := daysOf_bd k tAfter
  unfold RuBd at *
  unfold partV
  repeat' split
  all_goals first | exact h | exact ⟨h1, h.2⟩ | exact ⟨h.1, h2, h.2.2⟩ | exact ⟨h.1, h.2.1, h3⟩

end Go.Proofs.YtnnfcbebjbfkoaaDoor
