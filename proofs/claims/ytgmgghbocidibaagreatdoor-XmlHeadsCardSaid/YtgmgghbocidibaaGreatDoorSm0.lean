/-
  SEVERAL SMALL TEXTS IN ONE.
-/
import Derived.Test.YtgmgghbocidibaaGreatDoorRows
import Derived.WalkKit
import Derived.WalkSpells
import Derived.WalkLawsBesides
import Derived.Deep.QuietTactic
import Derived.BigQuiet
import Derived.Lib.Hide
/-
  WHAT ALL WALKS OF THIS SEAT SHARE: slices of rows of cells, read; what a call leaves.
-/
namespace Go.Proofs.YtgmgghbocidibaaGreatDoor
open Go.RowKit

/-- v is a slice of rows of sz cells each, and the world holds them. -/
def SlAt (w : World) (sz : Nat) (v : Value) (rows : List (List Value)) : Prop :=
  ∃ a c, v = .slice a rows.length c ∧ rows.length ≤ 140737488351232 ∧ ∀ i r, rows[i]? = some r → ∃ b off, a = some ⟨b, off, none⟩ ∧ ∀ j u, r[j]? = some u → w.cell? ⟨b, off + i * sz + j, none⟩ = some u

theorem cell_new (w : World) (c : Array Value) (t : TypeId) (n j : Nat) (v : Value) (h : n = w.heap.size) (hv : c[j]? = some v) : (w.alloc (.cells c t)).cell? ⟨n, j, none⟩ = some v := by
  subst h; simp [hv]
theorem cell_past {w : World} (o : Obj) {a : Addr} {v : Value} (h : w.cell? a = some v) : (w.alloc o).cell? a = some v := by
  have hlt := World.block_lt_of_cell? w a h
  rw [World.cell?_alloc_lt _ _ _ hlt]; exact h
theorem free_past {w : World} (o : Obj) {a : Addr} (hlt : a.block < w.heap.size) (h : w.frozen? a = false) : (w.alloc o).frozen? a = false := by
  rw [World.frozen?_of_block (w := w) (Below.heap_alloc w o a.block hlt)]; exact h
theorem below_alloc {B : Nat} {a w : World} (h : Below B a w) (hB : B ≤ a.heap.size) (o : Obj) : Below B a (w.alloc o) := h.alloc (Nat.le_trans hB h.size) o

theorem cell_of_heap {w : World} {g x : Nat} {cur : Array Value} {t : TypeId} (h : w.heap[g]? = some (.cells cur t (0, 0))) : w.cell? ⟨g, x, none⟩ = cur[x]? := by
  simp [World.cell?, h]
theorem free_of_heap {w : World} {g x : Nat} {cur : Array Value} {t : TypeId} (h : w.heap[g]? = some (.cells cur t (0, 0))) : w.frozen? ⟨g, x, none⟩ = false := by
  simp [World.frozen?, h]
theorem heap_set {w : World} {g x : Nat} {cur : Array Value} {t : TypeId} (h : w.heap[g]? = some (.cells cur t (0, 0))) (v : Value) : (w.setCell ⟨g, x, none⟩ v).heap[g]? = some (.cells (cur.setIfInBounds x v) t (0, 0)) := by
  simp [World.setCell, Array.getElem?_modify, h]

theorem cells_new (w : World) (c : Array Value) (t : TypeId) (j : Nat) (u : Value) (h : c.toList[j]? = some u) : (w.alloc (.cells c t)).cell? ((⟨w.heap.size, 0, none⟩ : Addr).add j) = some u := by
  rw [Addr.add_lit]
  exact cell_new _ _ _ _ _ _ rfl (by simpa using h)

theorem results_cell_tmp {P : Program} {fn : Func} {p q : Tmp} {ty : TypeId} (h : fn.results = #[.cell p ty, .tmp q]) (tmps : Array Value) (w : World) (g : Nat) (t : TypeId) (cs : Array Value) (d : TypeDesc)
    (hp : tmps.getD p undef = .pointer (some ⟨g, 0, none⟩)) (hg : w.heap[g]? = some (.cells cs t (0, 0)))
    (hu : P.underlying ty = some d) (hd : (match d with | .struct _ | .array _ _ => true | _ => false) = true) (hi : (P.info? ty).map (·.size) = some cs.size) :
    (results fn tmps).run P w = .ok (.tuple #[.agg cs, tmps.getD q undef]) w := by
  have hp' : tmps[p]?.getD undef = .pointer (some ⟨g, 0, none⟩) := by simpa using hp
  simp [results, h, hp', asAddr, run_loadVar_row w g t ty cs (0, 0) d hg hu hd hi]

theorem setRow_alloc (w : World) (old new : Array Value) (t : TypeId) (g : Nat) (h : g = w.heap.size) : (w.alloc (.cells old t)).setRow g new = w.alloc (.cells new t) := by
  subst h
  unfold World.setRow World.alloc
  congr 1
  apply Array.ext_getElem?
  intro i
  rw [Array.getElem?_modify, Array.getElem?_push, Array.getElem?_push]
  by_cases h : w.heap.size = i
  · subst h; simp
  · rw [if_neg h, if_neg (by omega), if_neg (by omega)]

theorem heap_at (w : World) (o : Obj) {g : Nat} (h : g = w.heap.size) : (w.alloc o).heap[g]? = some o := by subst h; exact heap_alloc_new w o

theorem heap_at1 (w : World) (o1 o2 : Obj) : ((w.alloc o1).alloc o2).heap[w.heap.size + 1]? = some o2 := heap_at _ _ (by simp)
theorem setRow_alloc1 (w : World) (o : Obj) (old new : Array Value) (t : TypeId) : ((w.alloc o).alloc (.cells old t)).setRow (w.heap.size + 1) new = (w.alloc o).alloc (.cells new t) := setRow_alloc _ _ _ _ _ (by simp)

theorem below_two_row (B : Nat) (a w : World) (o1 o2 : Obj) (g : Nat) (new : Array Value) (h : Below B a w) (hg : B ≤ g) (hB : B ≤ a.heap.size) : Below B a (((w.alloc o1).alloc o2).setRow g new) := by
  refine (below_alloc (below_alloc h hB _) hB _).trans ⟨rfl, rfl, rfl, by simp, fun k hk => setRow_other _ _ _ _ (by omega)⟩

theorem below_cell_row (B : Nat) (a w : World) (p : Addr) (u : Value) (g : Nat) (new : Array Value) (h : Below B a w) (hp : B ≤ p.block) (hg : B ≤ g) : Below B a ((w.setCell p u).setRow g new) :=
  (h.setCell hp u).trans ⟨rfl, rfl, rfl, by simp, fun _ hk => setRow_other _ _ _ _ (by omega)⟩
theorem below_cell2_row (B : Nat) (a w : World) (p q : Addr) (u v : Value) (g : Nat) (new : Array Value) (h : Below B a w) (hp : B ≤ p.block) (hq : B ≤ q.block) (hg : B ≤ g) : Below B a (((w.setCell p u).setCell q v).setRow g new) :=
  ((h.setCell hp u).setCell hq v).trans ⟨rfl, rfl, rfl, by simp, fun _ hk => setRow_other _ _ _ _ (by omega)⟩

theorem find_first {α : Type} {p : α → Bool} : ∀ (l : List α) (i : Nat) (u : α), l[i]? = some u → p u = true → (∀ (j : Nat) (x : α), j < i → l[j]? = some x → p x = false) → l.find? p = some u
  | [], _, _, h, _, _ => by cases h
  | x :: l, 0, u, h, hp, _ => by simp at h; subst h; simp [hp]
  | x :: l, i + 1, u, h, hp, hb => by
    have hx := hb 0 x (by omega) rfl
    simp only [List.find?_cons, hx]
    exact find_first l i u (by simpa using h) hp (fun j y hj hy => hb (j + 1) y (by omega) (by simpa using hy))
theorem find_none {α : Type} {p : α → Bool} (l : List α) (hb : ∀ (j : Nat) (x : α), l[j]? = some x → p x = false) : l.find? p = none := by
  rw [List.find?_eq_none]
  intro x hx
  obtain ⟨j, hj⟩ := List.getElem?_of_mem hx
  simp [hb j x hj]
theorem below_one_row (B : Nat) (a w : World) (g : Nat) (new : Array Value) (h : Below B a w) (hg : B ≤ g) : Below B a (w.setRow g new) :=
  h.trans ⟨rfl, rfl, rfl, by simp, fun _ hk => setRow_other _ _ _ _ (by omega)⟩

/-- a number fits an int -/
def IntOK (n : Int) : Prop := -9223372036854775808 ≤ n ∧ n ≤ 9223372036854775807

end Go.Proofs.YtgmgghbocidibaaGreatDoor

/-
  ELEMENTS (api.Elem) as trees, and how the world holds one.
-/
namespace Go.Proofs.YtgmgghbocidibaaGreatDoor
open Go.RowKit

inductive Tree where
  | node (name text : ByteArray) (kids : List Tree)

def Tree.name : Tree → ByteArray | .node n _ _ => n
def Tree.text : Tree → ByteArray | .node _ t _ => t
def Tree.kids : Tree → List Tree | .node _ _ k => k

/-- the longest that is read: every string, every slice takes at most 2^47 bytes -/
def maxRead : Nat := 140737488351232

mutual
/-- three cells hold the tree -/
def TreeIn (w : World) : Tree → Value → Value → Value → Prop
  | .node n t ks, x, y, z => x = .string n ∧ y = .string t ∧ n.size ≤ maxRead ∧ t.size ≤ maxRead ∧ ks.length ≤ 2513169434843 ∧ ∃ a c, z = .slice a ks.length c ∧ KidsIn w ks a 0
def KidsIn (w : World) : List Tree → Option Addr → Nat → Prop
  | [], _, _ => True
  | k :: ks, a, i => (∃ b off x y z, a = some ⟨b, off, none⟩ ∧ w.cell? ⟨b, off + i * 3, none⟩ = some x ∧ w.cell? ⟨b, off + i * 3 + 1, none⟩ = some y ∧ w.cell? ⟨b, off + i * 3 + 2, none⟩ = some z ∧ TreeIn w k x y z) ∧ KidsIn w ks a (i + 1)
end

mutual
theorem TreeIn.later {w w' : World} (hb : Below w.heap.size w w') : ∀ (t : Tree) (x y z : Value), TreeIn w t x y z → TreeIn w' t x y z
  | .node n t ks, x, y, z, h => by
    unfold TreeIn at *
    obtain ⟨h1, h2, h3, h4, h5, a, c, h6, h7⟩ := h
    exact ⟨h1, h2, h3, h4, h5, a, c, h6, KidsIn.later hb ks a 0 h7⟩
theorem KidsIn.later {w w' : World} (hb : Below w.heap.size w w') : ∀ (ks : List Tree) (a : Option Addr) (i : Nat), KidsIn w ks a i → KidsIn w' ks a i
  | [], _, _, _ => by unfold KidsIn; trivial
  | k :: ks, a, i, h => by
    unfold KidsIn at *
    obtain ⟨⟨b, off, x, y, z, h1, h2, h3, h4, h5⟩, h6⟩ := h
    exact ⟨⟨b, off, x, y, z, h1, cell_later hb h2, cell_later hb h3, cell_later hb h4, TreeIn.later hb k x y z h5⟩, KidsIn.later hb ks a (i + 1) h6⟩
end

theorem KidsIn.get {w : World} {a : Option Addr} : ∀ {ks : List Tree} {i : Nat} (_ : KidsIn w ks a i) (j : Nat) (k : Tree), ks[j]? = some k →
    ∃ b off x y z, a = some ⟨b, off, none⟩ ∧ w.cell? ⟨b, off + (i + j) * 3, none⟩ = some x ∧ w.cell? ⟨b, off + (i + j) * 3 + 1, none⟩ = some y ∧ w.cell? ⟨b, off + (i + j) * 3 + 2, none⟩ = some z ∧ TreeIn w k x y z
  | [], _, _, _, _, h => by cases h
  | x :: ks, i, h, 0, k, hk => by
    simp at hk; subst hk
    unfold KidsIn at h
    exact h.1
  | x :: ks, i, h, j + 1, k, hk => by
    unfold KidsIn at h
    have := KidsIn.get h.2 j k (by simpa using hk)
    rw [show i + (j + 1) = i + 1 + j from by omega]
    exact this

/-- what a tree's three cells are -/
theorem TreeIn.cells {w : World} {t : Tree} {x y z : Value} (h : TreeIn w t x y z) :
    x = .string t.name ∧ y = .string t.text ∧ t.name.size ≤ maxRead ∧ t.text.size ≤ maxRead ∧ t.kids.length ≤ 2513169434843 ∧ ∃ a c, z = .slice a t.kids.length c ∧ KidsIn w t.kids a 0 := by
  cases t with
  | node n t ks => unfold TreeIn at h; exact h

/-- a kid: its cells, as the walk reads them -/
theorem KidsIn.kid {w : World} {a : Option Addr} {ks : List Tree} (h : KidsIn w ks a 0) {j : Nat} {k : Tree} (hk : ks[j]? = some k) :
    ∃ b off a' c', a = some ⟨b, off, none⟩ ∧ w.cell? ⟨b, off + j * 3, none⟩ = some (.string k.name) ∧ w.cell? ⟨b, off + j * 3 + 1, none⟩ = some (.string k.text) ∧ w.cell? ⟨b, off + j * 3 + 2, none⟩ = some (.slice a' k.kids.length c') ∧
      k.name.size ≤ maxRead ∧ k.text.size ≤ maxRead ∧ k.kids.length ≤ 2513169434843 ∧ KidsIn w k.kids a' 0 ∧ TreeIn w k (.string k.name) (.string k.text) (.slice a' k.kids.length c') := by
  obtain ⟨b, off, x, y, z, h1, h2, h3, h4, h5⟩ := h.get j k hk
  rw [Nat.zero_add] at h2 h3 h4
  obtain ⟨rfl, rfl, h6, h7, h8, a', c', rfl, h9⟩ := h5.cells
  exact ⟨b, off, a', c', h1, h2, h3, h4, h6, h7, h8, h9, h5⟩

end Go.Proofs.YtgmgghbocidibaaGreatDoor
