/-
  SEVERAL SMALL TEXTS IN ONE.
-/
import Derived.Test.YtnnfcbebjbfkoaaDoorRows
import Derived.WalkKit
import Derived.WalkSpells
import Derived.WalkLawsBesides
import Derived.Deep.QuietTactic
import Derived.BigQuiet
import Derived.Lib.Hide
import Derived.Lib.ItoaMem
import Derived.Lib.AtoiAll
import Derived.Deep.AppendLies
import Derived.Test.YtnnfcbebjbfkoaaDoorShelf
import Derived.Deep.LoopGhost
import Derived.Lib.LaidTab
import Derived.Lib.ItoaNum
/-
  WHAT ALL WALKS OF THIS SEAT SHARE: slices of rows of cells, read; what a call leaves.
-/
namespace Go.Proofs.YtnnfcbebjbfkoaaDoor
open Go.RowKit

/-- v is a slice of rows of sz cells each, and the world holds them. -/
def SlAt (w : World) (sz : Nat) (v : Value) (rows : List (List Value)) : Prop :=
  ∃ a c, v = .slice a rows.length c ∧ rows.length ≤ 140737488351232 ∧ ∀ i r, rows[i]? = some r → ∃ b off, a = some ⟨b, off, none⟩ ∧ ∀ j u, r[j]? = some u → w.cell? ⟨b, off + i * sz + j, none⟩ = some u

theorem cell_new (w : World) (c : Array Value) (t : TypeId) (n j : Nat) (v : Value) (h : n = w.heap.size) (hv : c[j]? = some v) : (w.alloc (.cells c t)).cell? ⟨n, j, none⟩ = some v := by
  subst h; simp [hv]
theorem cell_past {w : World} (o : Obj) {a : Addr} {v : Value} (h : w.cell? a = some v) : (w.alloc o).cell? a = some v := by
  have hlt := World.block_lt_of_cell? w a h
  rw [World.cell?_alloc_lt _ _ _ hlt]; exact h
theorem free_past {w : World} (o : Obj) {a : Addr} (hlt : a.block < w.heap.size) (h : w.frozen? a = false) : (w.alloc o).frozen? a = false := by
  rw [World.frozen?_of_block (w := w) (Below.heap_alloc w o a.block hlt)]; exact h
theorem below_alloc {B : Nat} {a w : World} (h : Below B a w) (hB : B ≤ a.heap.size) (o : Obj) : Below B a (w.alloc o) := h.alloc (Nat.le_trans hB h.size) o

theorem cell_of_heap {w : World} {g x : Nat} {cur : Array Value} {t : TypeId} (h : w.heap[g]? = some (.cells cur t (0, 0))) : w.cell? ⟨g, x, none⟩ = cur[x]? := by
  simp [World.cell?, h]
theorem free_of_heap {w : World} {g x : Nat} {cur : Array Value} {t : TypeId} (h : w.heap[g]? = some (.cells cur t (0, 0))) : w.frozen? ⟨g, x, none⟩ = false := by
  simp [World.frozen?, h]
theorem heap_set {w : World} {g x : Nat} {cur : Array Value} {t : TypeId} (h : w.heap[g]? = some (.cells cur t (0, 0))) (v : Value) : (w.setCell ⟨g, x, none⟩ v).heap[g]? = some (.cells (cur.setIfInBounds x v) t (0, 0)) := by
  simp [World.setCell, Array.getElem?_modify, h]

theorem cells_new (w : World) (c : Array Value) (t : TypeId) (j : Nat) (u : Value) (h : c.toList[j]? = some u) : (w.alloc (.cells c t)).cell? ((⟨w.heap.size, 0, none⟩ : Addr).add j) = some u := by
  rw [Addr.add_lit]
  exact cell_new _ _ _ _ _ _ rfl (by simpa using h)

theorem results_cell_tmp {P : Program} {fn : Func} {p q : Tmp} {ty : TypeId} (h : fn.results = #[.cell p ty, .tmp q]) (tmps : Array Value) (w : World) (g : Nat) (t : TypeId) (cs : Array Value) (d : TypeDesc)
    (hp : tmps.getD p undef = .pointer (some ⟨g, 0, none⟩)) (hg : w.heap[g]? = some (.cells cs t (0, 0)))
    (hu : P.underlying ty = some d) (hd : (match d with | .struct _ | .array _ _ => true | _ => false) = true) (hi : (P.info? ty).map (·.size) = some cs.size) :
    (results fn tmps).run P w = .ok (.tuple #[.agg cs, tmps.getD q undef]) w := by
  have hp' : tmps[p]?.getD undef = .pointer (some ⟨g, 0, none⟩) := by simpa using hp
  simp [results, h, hp', asAddr, run_loadVar_row w g t ty cs (0, 0) d hg hu hd hi]

theorem setRow_alloc (w : World) (old new : Array Value) (t : TypeId) (g : Nat) (h : g = w.heap.size) : (w.alloc (.cells old t)).setRow g new = w.alloc (.cells new t) := by
  subst h
  unfold World.setRow World.alloc
  congr 1
  apply Array.ext_getElem?
  intro i
  rw [Array.getElem?_modify, Array.getElem?_push, Array.getElem?_push]
  by_cases h : w.heap.size = i
  · subst h; simp
  · rw [if_neg h, if_neg (by omega), if_neg (by omega)]

theorem heap_at (w : World) (o : Obj) {g : Nat} (h : g = w.heap.size) : (w.alloc o).heap[g]? = some o := by subst h; exact heap_alloc_new w o

theorem heap_at1 (w : World) (o1 o2 : Obj) : ((w.alloc o1).alloc o2).heap[w.heap.size + 1]? = some o2 := heap_at _ _ (by simp)
theorem setRow_alloc1 (w : World) (o : Obj) (old new : Array Value) (t : TypeId) : ((w.alloc o).alloc (.cells old t)).setRow (w.heap.size + 1) new = (w.alloc o).alloc (.cells new t) := setRow_alloc _ _ _ _ _ (by simp)

theorem below_two_row (B : Nat) (a w : World) (o1 o2 : Obj) (g : Nat) (new : Array Value) (h : Below B a w) (hg : B ≤ g) (hB : B ≤ a.heap.size) : Below B a (((w.alloc o1).alloc o2).setRow g new) := by
  refine (below_alloc (below_alloc h hB _) hB _).trans ⟨rfl, rfl, rfl, by simp, fun k hk => setRow_other _ _ _ _ (by omega)⟩

theorem below_cell_row (B : Nat) (a w : World) (p : Addr) (u : Value) (g : Nat) (new : Array Value) (h : Below B a w) (hp : B ≤ p.block) (hg : B ≤ g) : Below B a ((w.setCell p u).setRow g new) :=
  (h.setCell hp u).trans ⟨rfl, rfl, rfl, by simp, fun _ hk => setRow_other _ _ _ _ (by omega)⟩
theorem below_cell2_row (B : Nat) (a w : World) (p q : Addr) (u v : Value) (g : Nat) (new : Array Value) (h : Below B a w) (hp : B ≤ p.block) (hq : B ≤ q.block) (hg : B ≤ g) : Below B a (((w.setCell p u).setCell q v).setRow g new) :=
  ((h.setCell hp u).setCell hq v).trans ⟨rfl, rfl, rfl, by simp, fun _ hk => setRow_other _ _ _ _ (by omega)⟩

theorem find_first {α : Type} {p : α → Bool} : ∀ (l : List α) (i : Nat) (u : α), l[i]? = some u → p u = true → (∀ (j : Nat) (x : α), j < i → l[j]? = some x → p x = false) → l.find? p = some u
  | [], _, _, h, _, _ => by cases h
  | x :: l, 0, u, h, hp, _ => by simp at h; subst h; simp [hp]
  | x :: l, i + 1, u, h, hp, hb => by
    have hx := hb 0 x (by omega) rfl
    simp only [List.find?_cons, hx]
    exact find_first l i u (by simpa using h) hp (fun j y hj hy => hb (j + 1) y (by omega) (by simpa using hy))
theorem find_none {α : Type} {p : α → Bool} (l : List α) (hb : ∀ (j : Nat) (x : α), l[j]? = some x → p x = false) : l.find? p = none := by
  rw [List.find?_eq_none]
  intro x hx
  obtain ⟨j, hj⟩ := List.getElem?_of_mem hx
  simp [hb j x hj]
theorem below_one_row (B : Nat) (a w : World) (g : Nat) (new : Array Value) (h : Below B a w) (hg : B ≤ g) : Below B a (w.setRow g new) :=
  h.trans ⟨rfl, rfl, rfl, by simp, fun _ hk => setRow_other _ _ _ _ (by omega)⟩

/-- a number fits an int -/
def IntOK (n : Int) : Prop := -9223372036854775808 ≤ n ∧ n ≤ 9223372036854775807

end Go.Proofs.YtnnfcbebjbfkoaaDoor

/-
  ELEMENTS (api.Elem) as trees, and how the world holds one.
-/
namespace Go.Proofs.YtnnfcbebjbfkoaaDoor
open Go.RowKit

inductive Tree where
  | node (name text : ByteArray) (kids : List Tree)

def Tree.name : Tree → ByteArray | .node n _ _ => n
def Tree.text : Tree → ByteArray | .node _ t _ => t
def Tree.kids : Tree → List Tree | .node _ _ k => k

/-- the longest that is read: every string, every slice takes at most 2^47 bytes -/
def maxRead : Nat := 140737488351232

mutual
/-- three cells hold the tree -/
def TreeIn (w : World) : Tree → Value → Value → Value → Prop
  | .node n t ks, x, y, z => x = .string n ∧ y = .string t ∧ n.size ≤ maxRead ∧ t.size ≤ maxRead ∧ ks.length ≤ 2513169434843 ∧ ∃ a c, z = .slice a ks.length c ∧ KidsIn w ks a 0
def KidsIn (w : World) : List Tree → Option Addr → Nat → Prop
  | [], _, _ => True
  | k :: ks, a, i => (∃ b off x y z, a = some ⟨b, off, none⟩ ∧ w.cell? ⟨b, off + i * 3, none⟩ = some x ∧ w.cell? ⟨b, off + i * 3 + 1, none⟩ = some y ∧ w.cell? ⟨b, off + i * 3 + 2, none⟩ = some z ∧ TreeIn w k x y z) ∧ KidsIn w ks a (i + 1)
end

mutual
theorem TreeIn.later {w w' : World} (hb : Below w.heap.size w w') : ∀ (t : Tree) (x y z : Value), TreeIn w t x y z → TreeIn w' t x y z
  | .node n t ks, x, y, z, h => by
    unfold TreeIn at *
    obtain ⟨h1, h2, h3, h4, h5, a, c, h6, h7⟩ := h
    exact ⟨h1, h2, h3, h4, h5, a, c, h6, KidsIn.later hb ks a 0 h7⟩
theorem KidsIn.later {w w' : World} (hb : Below w.heap.size w w') : ∀ (ks : List Tree) (a : Option Addr) (i : Nat), KidsIn w ks a i → KidsIn w' ks a i
  | [], _, _, _ => by unfold KidsIn; trivial
  | k :: ks, a, i, h => by
    unfold KidsIn at *
    obtain ⟨⟨b, off, x, y, z, h1, h2, h3, h4, h5⟩, h6⟩ := h
    exact ⟨⟨b, off, x, y, z, h1, cell_later hb h2, cell_later hb h3, cell_later hb h4, TreeIn.later hb k x y z h5⟩, KidsIn.later hb ks a (i + 1) h6⟩
end

theorem KidsIn.get {w : World} {a : Option Addr} : ∀ {ks : List Tree} {i : Nat} (_ : KidsIn w ks a i) (j : Nat) (k : Tree), ks[j]? = some k →
    ∃ b off x y z, a = some ⟨b, off, none⟩ ∧ w.cell? ⟨b, off + (i + j) * 3, none⟩ = some x ∧ w.cell? ⟨b, off + (i + j) * 3 + 1, none⟩ = some y ∧ w.cell? ⟨b, off + (i + j) * 3 + 2, none⟩ = some z ∧ TreeIn w k x y z
  | [], _, _, _, _, h => by cases h
  | x :: ks, i, h, 0, k, hk => by
    simp at hk; subst hk
    unfold KidsIn at h
    exact h.1
  | x :: ks, i, h, j + 1, k, hk => by
    unfold KidsIn at h
    have := KidsIn.get h.2 j k (by simpa using hk)
    rw [show i + (j + 1) = i + 1 + j from by omega]
    exact this

/-- what a tree's three cells are -/
theorem TreeIn.cells {w : World} {t : Tree} {x y z : Value} (h : TreeIn w t x y z) :
    x = .string t.name ∧ y = .string t.text ∧ t.name.size ≤ maxRead ∧ t.text.size ≤ maxRead ∧ t.kids.length ≤ 2513169434843 ∧ ∃ a c, z = .slice a t.kids.length c ∧ KidsIn w t.kids a 0 := by
  cases t with
  | node n t ks => unfold TreeIn at h; exact h

/-- a kid: its cells, as the walk reads them -/
theorem KidsIn.kid {w : World} {a : Option Addr} {ks : List Tree} (h : KidsIn w ks a 0) {j : Nat} {k : Tree} (hk : ks[j]? = some k) :
    ∃ b off a' c', a = some ⟨b, off, none⟩ ∧ w.cell? ⟨b, off + j * 3, none⟩ = some (.string k.name) ∧ w.cell? ⟨b, off + j * 3 + 1, none⟩ = some (.string k.text) ∧ w.cell? ⟨b, off + j * 3 + 2, none⟩ = some (.slice a' k.kids.length c') ∧
      k.name.size ≤ maxRead ∧ k.text.size ≤ maxRead ∧ k.kids.length ≤ 2513169434843 ∧ KidsIn w k.kids a' 0 ∧ TreeIn w k (.string k.name) (.string k.text) (.slice a' k.kids.length c') := by
  obtain ⟨b, off, x, y, z, h1, h2, h3, h4, h5⟩ := h.get j k hk
  rw [Nat.zero_add] at h2 h3 h4
  obtain ⟨rfl, rfl, h6, h7, h8, a', c', rfl, h9⟩ := h5.cells
  exact ⟨b, off, a', c', h1, h2, h3, h4, h6, h7, h8, h9, h5⟩

end Go.Proofs.YtnnfcbebjbfkoaaDoor

/-
  PLAIN DATA of chapter 22: rules, what an element of a rule says.
-/
namespace Go.Proofs.YtnnfcbebjbfkoaaDoor
open Go.RowKit

/-- a rule -/
structure RuleV where
  id : ByteArray
  pre : ByteArray
  on : Bool
  days : Int
  nonc : Int
  abort : Int
def RuleV.cells (r : RuleV) : List Value := [.string r.id, .string r.pre, .bool r.on, .int .i64 r.days, .int .i64 r.nonc, .int .i64 r.abort]

/-- the rules of a slice -/
def RulesAt (w : World) (v : Value) (l : List RuleV) : Prop := SlAt w 6 v (l.map RuleV.cells)

end Go.Proofs.YtnnfcbebjbfkoaaDoor

/-
  leaf, and what days, part, rule, Read compute.
-/
namespace Go.Proofs.YtnnfcbebjbfkoaaDoor
open Go.RowKit

def leafB (t : Tree) (most : Int) : Bool := t.kids.length == 0 && decide ((t.text.size : Int) ≤ most)
/-- an element as it is handed over -/
abbrev elemV (t : Tree) (a : Option Addr) (c : Nat) : Value := .agg #[.string t.name, .string t.text, .slice a t.kids.length c]

set_option maxHeartbeats 400000 in
theorem leaf_walk (n t : ByteArray) (a : Option Addr) (len c : Nat) (most : Int) (w : World) :
    Calls Tryd.prog 50 #[.agg #[.string n, .string t, .slice a len c], .int .i64 most] w fun e w' => e = .returned (.bool (len == 0 && decide ((t.size : Int) ≤ most))) ∧ Below w.heap.size w w' := by
  by_cases h : len = 0
  · subst h
    go_enter Tryd.func50, Tryd.ntmps50
    go_wp2
    go_ret
    exact ⟨by simp, (by repeat (first | exact Below.refl _ _ | assumption | (refine below_drewN ?_ _) | (refine Below.alloc ?_ (by first | (simp; done) | (simp; omega) | omega) _) | (refine Below.setCell ?_ (by first | (simp; done) | (simp; omega) | omega) _)))⟩
  · have h' : ((len : Int) == 0) = false := beq_eq_false_iff_ne.2 (by omega)
    go_enter Tryd.func50, Tryd.ntmps50
    go_wp2
    go_ret
    exact ⟨by simp [h], (by repeat (first | exact Below.refl _ _ | assumption | (refine below_drewN ?_ _) | (refine Below.alloc ?_ (by first | (simp; done) | (simp; omega) | omega) _) | (refine Below.setCell ?_ (by first | (simp; done) | (simp; omega) | omega) _)))⟩

theorem leaf_any (t : Tree) (a : Option Addr) (c : Nat) (most : Int) (w : World) :
    Calls Tryd.prog 50 #[elemV t a c, .int .i64 most] w fun e w' => e = .returned (.bool (leafB t most)) ∧ Below w.heap.size w w' :=
  leaf_walk _ _ _ _ _ _ _

/-- a number of days, as it is written -/
def dayNum (s : ByteArray) : Int :=
  match Lib.atoiAll s.data.toList with
  | .ok n => if (Lib.itoa n == s.data.toList) && decide (1 ≤ n ∧ n ≤ 36500) then n else 0
  | _ => 0
def daysOf (t : Tree) (name : List UInt8) : Int :=
  match t.kids with
  | [k] => if t.text.toList.isEmpty && (k.name.toList == name) && leafB k 5 then dayNum k.text else 0
  | _ => 0

theorem dayNum_bd (s : ByteArray) : 0 ≤ dayNum s ∧ dayNum s ≤ 36500 := by
  unfold dayNum
  split
  · split
    · rename_i h
      simp at h
      omega
    · omega
  · omega
theorem daysOf_bd (t : Tree) (name : List UInt8) : 0 ≤ daysOf t name ∧ daysOf t name ≤ 36500 := by
  unfold daysOf
  split
  · split
    · exact dayNum_bd _
    · omega
  · omega

def tID : List UInt8 := [73, 68]
def tStatus : List UInt8 := [83, 116, 97, 116, 117, 115]
def tFilter : List UInt8 := [70, 105, 108, 116, 101, 114]
def tExp : List UInt8 := [69, 120, 112, 105, 114, 97, 116, 105, 111, 110]
def tNon : List UInt8 := [78, 111, 110, 99, 117, 114, 114, 101, 110, 116, 86, 101, 114, 115, 105, 111, 110, 69, 120, 112, 105, 114, 97, 116, 105, 111, 110]
def tAbort : List UInt8 := [65, 98, 111, 114, 116, 73, 110, 99, 111, 109, 112, 108, 101, 116, 101, 77, 117, 108, 116, 105, 112, 97, 114, 116, 85, 112, 108, 111, 97, 100]
def tDays : List UInt8 := [68, 97, 121, 115]
def tNonDays : List UInt8 := [78, 111, 110, 99, 117, 114, 114, 101, 110, 116, 68, 97, 121, 115]
def tAfter : List UInt8 := [68, 97, 121, 115, 65, 102, 116, 101, 114, 73, 110, 105, 116, 105, 97, 116, 105, 111, 110]
def tEnabled : List UInt8 := [69, 110, 97, 98, 108, 101, 100]
def tDisabled : List UInt8 := [68, 105, 115, 97, 98, 108, 101, 100]
def tPrefix : List UInt8 := [80, 114, 101, 102, 105, 120]
def tRule : List UInt8 := [82, 117, 108, 101]
def tConf : List UInt8 := [76, 105, 102, 101, 99, 121, 99, 108, 101, 67, 111, 110, 102, 105, 103, 117, 114, 97, 116, 105, 111, 110]

/-- what part makes of a rule and of one kid -/
def partV (r : RuleV) (k : Tree) : RuleV × Bool :=
  if k.name.toList == tID then ({ r with id := k.text }, leafB k 100)
  else if k.name.toList == tStatus then ({ r with on := k.text.toList == tEnabled }, leafB k 100 && (k.text.toList == tEnabled || k.text.toList == tDisabled))
  else if k.name.toList == tFilter then
    if k.text.toList.isEmpty then
      match k.kids with
      | [] => (r, true)
      | [p] => ({ r with pre := p.text }, p.name.toList == tPrefix && leafB p 100)
      | _ => (r, false)
    else (r, false)
  else if k.name.toList == tExp then ({ r with days := daysOf k tDays }, decide (0 < daysOf k tDays))
  else if k.name.toList == tNon then ({ r with nonc := daysOf k tNonDays }, decide (0 < daysOf k tNonDays))
  else if k.name.toList == tAbort then ({ r with abort := daysOf k tAfter }, decide (0 < daysOf k tAfter))
  else (r, false)

def rule0 : RuleV := ⟨⟨#[]⟩, ⟨#[]⟩, false, 0, 0, 0⟩

/-- the kids of a rule, one by one; the names that came ahead -/
def ruleKids (r : RuleV) (seen : List (List UInt8)) : List Tree → Option RuleV
  | [] => some r
  | k :: ks => if seen.contains k.name.toList then none else if (partV r k).2 then ruleKids (partV r k).1 (seen ++ [k.name.toList]) ks else none
def ruleOf (t : Tree) : Option RuleV :=
  match ruleKids rule0 [] t.kids with
  | none => none
  | some r => if t.name.toList == tRule && t.text.toList.isEmpty && (t.kids.map fun k => k.name.toList).contains tStatus && (t.kids.map fun k => k.name.toList).contains tFilter && decide (0 < r.days + r.nonc + r.abort) then some r else none
def readKids : List Tree → Option (List RuleV)
  | [] => some []
  | k :: ks => match ruleOf k with
    | none => none
    | some r => (readKids ks).map fun l => r :: l
def readOf (t : Tree) : Option (List RuleV) :=
  if t.name.toList == tConf && t.text.toList.isEmpty && decide (1 ≤ t.kids.length ∧ t.kids.length ≤ 10) then readKids t.kids else none

end Go.Proofs.YtnnfcbebjbfkoaaDoor

/-
  TREES that the call builds: the blocks in which they lie; rows of trees that grow.
-/
namespace Go.Proofs.YtnnfcbebjbfkoaaDoor
open Go.RowKit

/-- but for the blocks M, and new ones, the world is as it was -/
structure Chg (w w' : World) (M : Nat → Prop) : Prop where
  os : w'.os = w.os
  tape : w'.tape = w.tape
  output : w'.output = w.output
  size : w.heap.size ≤ w'.heap.size
  block : ∀ k, k < w.heap.size → ¬ M k → w'.heap[k]? = w.heap[k]?

theorem Chg.refl (w : World) (M : Nat → Prop) : Chg w w M := ⟨rfl, rfl, rfl, Nat.le_refl _, fun _ _ _ => rfl⟩
theorem Chg.trans {a b c : World} {M : Nat → Prop} (h : Chg a b M) (k : Chg b c M) : Chg a c M :=
  ⟨k.os.trans h.os, k.tape.trans h.tape, k.output.trans h.output, Nat.le_trans h.size k.size, fun i hi hm => (k.block i (Nat.lt_of_lt_of_le hi h.size) hm).trans (h.block i hi hm)⟩
theorem Chg.mono {w w' : World} {M N : Nat → Prop} (h : Chg w w' M) (hm : ∀ k, k < w.heap.size → M k → N k) : Chg w w' N := ⟨h.os, h.tape, h.output, h.size, fun k hk hn => h.block k hk (fun x => hn (hm k hk x))⟩
theorem Chg.of_below {w w' : World} {M : Nat → Prop} (h : Below w.heap.size w w') : Chg w w' M := ⟨h.os, h.tape, h.output, h.size, fun k hk _ => h.block k hk⟩
theorem Chg.below {B : Nat} {w w' : World} {M : Nat → Prop} (h : Chg w w' M) (hB : B ≤ w.heap.size) (hm : ∀ k, M k → B ≤ k) : Below B w w' := ⟨h.os, h.tape, h.output, h.size, fun k hk => h.block k (by omega) (fun x => by have := hm k x; omega)⟩
theorem Chg.grown {w w' : World} {row : Option Nat} (h : w.grownBy w' row) : Chg w w' (fun b => some b = row) := ⟨h.os, h.tape, h.output, h.size, h.block⟩
theorem Chg.set (w : World) (a : Addr) (v : Value) : Chg w (w.setCell a v) (fun b => b = a.block) := ⟨rfl, rfl, rfl, by simp [World.setCell], fun k _ hk => Below.heap_setCell _ _ _ _ hk⟩

mutual
/-- three cells hold the tree, in blocks that meet ok -/
def TreeOn (w : World) (ok : Nat → Prop) : Tree → Value → Value → Value → Prop
  | .node n t ks, x, y, z => x = .string n ∧ y = .string t ∧ n.size ≤ maxRead ∧ t.size ≤ maxRead ∧ ks.length ≤ 2513169434843 ∧ ∃ a c, z = .slice a ks.length c ∧ KidsOn w ok ks a 0
def KidsOn (w : World) (ok : Nat → Prop) : List Tree → Option Addr → Nat → Prop
  | [], _, _ => True
  | k :: ks, a, i => (∃ b off x y z, a = some ⟨b, off, none⟩ ∧ ok b ∧ w.cell? ⟨b, off + i * 3, none⟩ = some x ∧ w.cell? ⟨b, off + i * 3 + 1, none⟩ = some y ∧ w.cell? ⟨b, off + i * 3 + 2, none⟩ = some z ∧ TreeOn w ok k x y z) ∧ KidsOn w ok ks a (i + 1)
end

mutual
theorem TreeOn.kept {w w' : World} {ok ok' : Nat → Prop} (hb : ∀ b, b < w.heap.size → ok b → w'.heap[b]? = w.heap[b]?) (ho : ∀ b, b < w.heap.size → ok b → ok' b) : ∀ (t : Tree) (x y z : Value), TreeOn w ok t x y z → TreeOn w' ok' t x y z
  | .node n t ks, x, y, z, h => by
    unfold TreeOn at *
    obtain ⟨h1, h2, h3, h4, h5, a, c, h6, h7⟩ := h
    exact ⟨h1, h2, h3, h4, h5, a, c, h6, KidsOn.kept hb ho ks a 0 h7⟩
theorem KidsOn.kept {w w' : World} {ok ok' : Nat → Prop} (hb : ∀ b, b < w.heap.size → ok b → w'.heap[b]? = w.heap[b]?) (ho : ∀ b, b < w.heap.size → ok b → ok' b) : ∀ (ks : List Tree) (a : Option Addr) (i : Nat), KidsOn w ok ks a i → KidsOn w' ok' ks a i
  | [], _, _, _ => by unfold KidsOn; trivial
  | k :: ks, a, i, h => by
    unfold KidsOn at *
    obtain ⟨⟨b, off, x, y, z, h1, h1', h2, h3, h4, h5⟩, h6⟩ := h
    have hlt : b < w.heap.size := World.block_lt_of_cell? w _ h2
    have e : ∀ o, w'.cell? ⟨b, o, none⟩ = w.cell? ⟨b, o, none⟩ := fun o => World.cell?_of_block (w := w) (hb b hlt h1')
    exact ⟨⟨b, off, x, y, z, h1, ho b hlt h1', (e _).trans h2, (e _).trans h3, (e _).trans h4, TreeOn.kept hb ho k x y z h5⟩, KidsOn.kept hb ho ks a (i + 1) h6⟩
end

mutual
theorem TreeOn.to_in {w : World} {ok : Nat → Prop} : ∀ (t : Tree) (x y z : Value), TreeOn w ok t x y z → TreeIn w t x y z
  | .node n t ks, x, y, z, h => by
    unfold TreeOn at h
    unfold TreeIn
    obtain ⟨h1, h2, h3, h4, h5, a, c, h6, h7⟩ := h
    exact ⟨h1, h2, h3, h4, h5, a, c, h6, KidsOn.to_in ks a 0 h7⟩
theorem KidsOn.to_in {w : World} {ok : Nat → Prop} : ∀ (ks : List Tree) (a : Option Addr) (i : Nat), KidsOn w ok ks a i → KidsIn w ks a i
  | [], _, _, _ => by unfold KidsIn; trivial
  | k :: ks, a, i, h => by
    unfold KidsOn at h
    unfold KidsIn
    obtain ⟨⟨b, off, x, y, z, h1, _, h2, h3, h4, h5⟩, h6⟩ := h
    exact ⟨⟨b, off, x, y, z, h1, h2, h3, h4, TreeOn.to_in k x y z h5⟩, KidsOn.to_in ks a (i + 1) h6⟩
end

/-- some trees' cells, one behind the other -/
def RowOf (w : World) (ok : Nat → Prop) : List Tree → List Value → Prop
  | [], xs => xs = []
  | k :: ks, xs => ∃ x y z r, xs = x :: y :: z :: r ∧ TreeOn w ok k x y z ∧ RowOf w ok ks r

theorem RowOf.kept {w w' : World} {ok ok' : Nat → Prop} (hb : ∀ b, b < w.heap.size → ok b → w'.heap[b]? = w.heap[b]?) (ho : ∀ b, b < w.heap.size → ok b → ok' b) : ∀ {ks : List Tree} {xs : List Value}, RowOf w ok ks xs → RowOf w' ok' ks xs
  | [], _, h => h
  | _ :: _, _, ⟨x, y, z, r, h1, h2, h3⟩ => ⟨x, y, z, r, h1, TreeOn.kept hb ho _ _ _ _ h2, RowOf.kept hb ho h3⟩
theorem RowOf.append {w : World} {ok : Nat → Prop} : ∀ {ks ks2 : List Tree} {xs ys : List Value}, RowOf w ok ks xs → RowOf w ok ks2 ys → RowOf w ok (ks ++ ks2) (xs ++ ys)
  | [], _, _, _, h, h2 => by subst h; exact h2
  | _ :: _, _, _, _, ⟨x, y, z, r, h1, h2, h3⟩, h4 => ⟨x, y, z, r ++ _, by rw [h1]; rfl, h2, RowOf.append h3 h4⟩
theorem RowOf.length {w : World} {ok : Nat → Prop} : ∀ {ks : List Tree} {xs : List Value}, RowOf w ok ks xs → xs.length = ks.length * 3
  | [], _, h => by subst h; rfl
  | _ :: _, _, ⟨x, y, z, r, h1, h2, h3⟩ => by rw [h1]; simp [RowOf.length h3]; omega
theorem RowOf.one {w : World} {ok : Nat → Prop} {k : Tree} {x y z : Value} (h : TreeOn w ok k x y z) : RowOf w ok [k] [x, y, z] := ⟨x, y, z, [], rfl, h, rfl⟩
theorem TreeOn.oneCell {w : World} {ok : Nat → Prop} {t : Tree} {x y z : Value} (h : TreeOn w ok t x y z) : x.oneCell' = true ∧ y.oneCell' = true ∧ z.oneCell' = true := by
  cases t with
  | node n t ks =>
    unfold TreeOn at h
    obtain ⟨rfl, rfl, _, _, _, a, c, rfl, _⟩ := h
    exact ⟨rfl, rfl, rfl⟩
theorem RowOf.oneCell {w : World} {ok : Nat → Prop} : ∀ {ks : List Tree} {xs : List Value}, RowOf w ok ks xs → ∀ u ∈ xs, u.oneCell' = true
  | [], _, h, u, hu => by subst h; cases hu
  | _ :: _, _, ⟨x, y, z, r, h1, h2, h3⟩, u, hu => by
    subst h1
    obtain ⟨a, b, c⟩ := h2.oneCell
    simp only [List.mem_cons] at hu
    rcases hu with rfl | rfl | rfl | hu
    · exact a
    · exact b
    · exact c
    · exact RowOf.oneCell h3 u hu
/-- a row that lies in a block: the kids of a tree -/
theorem RowOf.kids {w : World} {ok ok' : Nat → Prop} {b off : Nat} (hob : ok' b) (ho : ∀ b, ok b → ok' b) : ∀ {ks : List Tree} {xs : List Value} {i : Nat}, RowOf w ok ks xs → (∀ j u, xs[j]? = some u → w.cell? ⟨b, off + i * 3 + j, none⟩ = some u) → KidsOn w ok' ks (some ⟨b, off, none⟩) i
  | [], _, _, _, _ => by unfold KidsOn; trivial
  | k :: ks, _, i, ⟨x, y, z, r, h1, h2, h3⟩, hc => by
    subst h1
    unfold KidsOn
    refine ⟨⟨b, off, x, y, z, rfl, hob, hc 0 x rfl, hc 1 y rfl, hc 2 z rfl, TreeOn.kept (fun _ _ _ => rfl) (fun b _ => ho b) k x y z h2⟩, RowOf.kids hob ho h3 (fun j u hj => ?_)⟩
    have := hc (j + 3) u (by simpa using hj)
    rw [show off + (i + 1) * 3 + j = off + i * 3 + (j + 3) from by omega]
    exact this

/-- a box kb of an element whose kids grow, at home from base on -/
structure Grow (w : World) (base kb : Nat) (nm : ByteArray) (ks : List Tree) (v : Value) : Prop where
  box : w.heap[kb]? = some (.cells #[.string nm, .string ⟨#[]⟩, v] 24 (0, 0))
  low : kb < base
  row : ∃ xs, ∃ ok : Nat → Prop, w.ownsRow base 24 3 v ks.length xs ∧ RowOf w ok ks xs ∧ ∀ b, ok b → base ≤ b ∧ b < w.heap.size ∧ some b ≠ v.ownBlock

theorem Grow.kb_lt {w : World} {base kb : Nat} {nm : ByteArray} {ks : List Tree} {v : Value} (h : Grow w base kb nm ks v) : kb < w.heap.size := (Array.getElem?_eq_some_iff.1 h.box).1
theorem Grow.own_lt {w : World} {base kb : Nat} {nm : ByteArray} {ks : List Tree} {v : Value} (h : Grow w base kb nm ks v) {g : Nat} (hg : v.ownBlock = some g) : base ≤ g ∧ g < w.heap.size := by
  obtain ⟨xs, ok, ho, _, _⟩ := h.row
  exact ho.lt g hg
/-- nothing of the box, nothing from base on but new blocks and M's -/
theorem Grow.kept {w w' : World} {base kb : Nat} {nm : ByteArray} {ks : List Tree} {v : Value} {M : Nat → Prop} (h : Grow w base kb nm ks v) (hc : Chg w w' M) (hk : ¬ M kb) (hm : ∀ b, base ≤ b → b < w.heap.size → ¬ M b) : Grow w' base kb nm ks v := by
  obtain ⟨xs, ok, ho, hr, hk2⟩ := h.row
  refine ⟨by rw [hc.block kb h.kb_lt hk]; exact h.box, h.low, xs, ok, ?_, RowOf.kept (fun b hb hob => hc.block b hb (hm b (hk2 b hob).1 hb)) (fun _ _ h => h) hr, fun b hb => ⟨(hk2 b hb).1, Nat.lt_of_lt_of_le (hk2 b hb).2.1 hc.size, (hk2 b hb).2.2⟩⟩
  refine ⟨ho.1, ?_⟩
  rcases ho.2 with h1 | ⟨g, cap, cur, hv, hg, hh, r⟩
  · exact .inl h1
  · exact .inr ⟨g, cap, cur, hv, hg, by rw [hc.block g (Array.getElem?_eq_some_iff.1 hh).1 (hm g hg (Array.getElem?_eq_some_iff.1 hh).1)]; exact hh, r⟩
theorem Grow.later {w w' : World} {base kb : Nat} {nm : ByteArray} {ks : List Tree} {v : Value} (h : Grow w base kb nm ks v) (hb : Below w.heap.size w w') : Grow w' base kb nm ks v :=
  h.kept (M := fun _ => False) (Chg.of_below hb) (fun x => x) (fun _ _ _ x => x)

/-- more kids -/
theorem Grow.push {w w1 w' : World} {base kb : Nat} {nm : ByteArray} {ks ks2 : List Tree} {v : Value} {g cap : Nat} {xs news : List Value} {ok ok2 : Nat → Prop} (h : Grow w base kb nm ks v)
    (hr : RowOf w ok ks xs) (hok : ∀ b, ok b → base ≤ b ∧ b < w.heap.size ∧ some b ≠ v.ownBlock)
    (h2 : RowOf w ok2 ks2 news) (hok2 : ∀ b, ok2 b → base ≤ b ∧ b < w.heap.size ∧ some b ≠ v.ownBlock)
    (hown : w1.ownsRow base 24 3 (.slice (some ⟨g, 0, none⟩) (ks.length + ks2.length) cap) (ks.length + ks2.length) (xs ++ news)) (hgr : w.grownBy w1 v.ownBlock) (hat : v.ownBlock = some g ∨ g = w.heap.size) (hlt : g < w1.heap.size)
    (hw : w' = w1.setCell ⟨kb, 2, none⟩ (.slice (some ⟨g, 0, none⟩) (ks.length + ks2.length) cap)) :
    Grow w' base kb nm (ks ++ ks2) (.slice (some ⟨g, 0, none⟩) (ks.length + ks2.length) cap) ∧ Chg w w' (fun b => b = kb ∨ some b = v.ownBlock) := by
  subst hw
  have hkb := h.kb_lt
  have hlow := h.low
  have hkv : some kb ≠ v.ownBlock := fun e => by have := (h.own_lt e.symm).1; omega
  have hbox1 : w1.heap[kb]? = some (.cells #[.string nm, .string ⟨#[]⟩, v] 24 (0, 0)) := by rw [hgr.block kb hkb hkv]; exact h.box
  have hgb : base ≤ g := (hown.lt g rfl).1
  refine ⟨⟨?_, hlow, xs ++ news, fun b => ok b ∨ ok2 b, ?_, ?_, ?_⟩, ?_⟩
  · rw [heap_set hbox1]; simp
  · rw [List.length_append]
    refine ⟨hown.1, ?_⟩
    rcases hown.2 with h1 | ⟨g', cap', cur, hv, hg, hh, r⟩
    · exact .inl h1
    · exact .inr ⟨g', cap', cur, hv, hg, by rw [Below.heap_setCell _ _ _ _ (by simp; omega)]; exact hh, r⟩
  · have hkeep : ∀ b, base ≤ b ∧ b < w.heap.size ∧ some b ≠ v.ownBlock → (w1.setCell ⟨kb, 2, none⟩ (.slice (some ⟨g, 0, none⟩) (ks.length + ks2.length) cap)).heap[b]? = w.heap[b]? := fun b hb => by
      rw [Below.heap_setCell _ _ _ _ (by simp; omega), hgr.block b hb.2.1 hb.2.2]
    exact RowOf.append (RowOf.kept (fun b _ hb => hkeep b (hok b hb)) (fun b _ hb => .inl hb) hr) (RowOf.kept (fun b _ hb => hkeep b (hok2 b hb)) (fun b _ hb => .inr hb) h2)
  · intro b hb
    have hb' : base ≤ b ∧ b < w.heap.size ∧ some b ≠ v.ownBlock := by rcases hb with hb | hb; exact hok b hb; exact hok2 b hb
    refine ⟨hb'.1, Nat.lt_of_lt_of_le hb'.2.1 (by have := hgr.size; simpa [World.setCell] using this), fun e => ?_⟩
    simp only [Value.ownBlock, Option.some.injEq] at e
    subst e
    rcases hat with h1 | h1
    · exact hb'.2.2 h1.symm
    · omega
  · exact ((Chg.grown hgr).mono (fun _ _ h => .inr h)).trans ((Chg.set _ _ _).mono (fun _ _ h => .inl h))

/-- the element that the box holds -/
theorem Grow.tree {w : World} {base kb : Nat} {nm : ByteArray} {ks : List Tree} {v : Value} (h : Grow w base kb nm ks v) (h1 : nm.size ≤ maxRead) (h2 : ks.length ≤ 2513169434843) :
    ∃ ok : Nat → Prop, TreeOn w ok (.node nm ⟨#[]⟩ ks) (.string nm) (.string ⟨#[]⟩) v ∧ ∀ b, ok b → base ≤ b ∧ b < w.heap.size := by
  obtain ⟨xs, ok, ho, hr, hok⟩ := h.row
  rcases ho.2 with ⟨rfl, h0⟩ | ⟨g, cap, cur, rfl, hb, hg, hn, hm, hcs, ht⟩
  · obtain rfl := List.eq_nil_of_length_eq_zero h0
    refine ⟨fun _ => False, ?_, fun b h => h.elim⟩
    unfold TreeOn
    exact ⟨rfl, rfl, h1, by unfold maxRead; simp [ByteArray.size], by simp, none, 0, rfl, by unfold KidsOn; trivial⟩
  · refine ⟨fun b => ok b ∨ b = g, ?_, fun b hb' => ?_⟩
    · unfold TreeOn
      refine ⟨rfl, rfl, h1, by unfold maxRead; simp [ByteArray.size], h2, _, _, rfl, RowOf.kids (.inr rfl) (fun _ h => .inl h) hr (fun j u hj => ?_)⟩
      have hl := RowOf.length hr
      have hjl := (List.getElem?_eq_some_iff.1 hj).1
      simp only [Nat.zero_add, Nat.zero_mul]
      simp only [World.cell?, hg]
      rw [← ht, List.getElem?_take, if_pos (by omega), Array.getElem?_toList] at hj
      simpa using hj
    · rcases hb' with h3 | rfl
      · exact ⟨(hok b h3).1, (hok b h3).2.1⟩
      · exact ⟨hb, (Array.getElem?_eq_some_iff.1 hg).1⟩

end Go.Proofs.YtnnfcbebjbfkoaaDoor

/-
  Tell: its closures.
-/
namespace Go.Proofs.YtnnfcbebjbfkoaaDoor
open Go.RowKit

theorem results_cell1 {P : Program} {fn : Func} {p : Tmp} {ty : TypeId} (h : fn.results = #[.cell p ty]) (tmps : Array Value) (w : World) (g : Nat) (t : TypeId) (cs : Array Value) (d : TypeDesc)
    (hp : tmps.getD p undef = .pointer (some ⟨g, 0, none⟩)) (hg : w.heap[g]? = some (.cells cs t (0, 0)))
    (hu : P.underlying ty = some d) (hd : (match d with | .struct _ | .array _ _ => true | _ => false) = true) (hi : (P.info? ty).map (·.size) = some cs.size) :
    (results fn tmps).run P w = .ok (.agg cs) w := by
  have hp' : tmps[p]?.getD undef = .pointer (some ⟨g, 0, none⟩) := by simpa using hp
  simp [results, h, hp', asAddr, run_loadVar_row w g t ty cs (0, 0) d hg hu hd hi]

set_option maxHeartbeats 400000 in
theorem text_any (a b : ByteArray) (w : World) :
    Calls Tryd.prog 20 #[.string a, .string b] w fun e w' => e = .returned (.agg #[.string a, .string b, .slice none 0 0]) ∧ Below w.heap.size w w' := by
  go_enter Tryd.func20, Tryd.ntmps20
  go_wp2
  refine bodyPost_ret (results_cell1 rfl _ _ w.heap.size 24 _ _ rfl (heap_alloc_new _ _) Tryd.underlying24 rfl (by kernel_rfl)) rfl ?_
  exact ⟨rfl, below_alloc (Below.refl _ _) (Nat.le_refl _) _⟩

theorem info_elem : ∃ i, Tryd.prog.info? 24 = some i ∧ i.zero = some (.agg #[.string ⟨#[]⟩, .string ⟨#[]⟩, .slice none 0 0]) ∧ i.size = 3 ∧ i.bytes = 56 :=
  info_parts (show (Tryd.prog.info? 24).map (fun i => (i.zero, i.size, i.bytes)) = some (some (.agg #[.string ⟨#[]⟩, .string ⟨#[]⟩, .slice none 0 0]), 3, 56) by kernel_rfl)

/-- the slice lies where it lay, or in a new block -/
def OwnNew (w : World) (v v' : Value) : Prop := ∀ g, v'.ownBlock = some g → v.ownBlock = some g ∨ w.heap.size ≤ g

/-- what put leaves -/
def PutPost (w : World) (base kb : Nat) (nm : ByteArray) (ks : List Tree) (v : Value) (e : Ending) (w' : World) : Prop :=
  e = .returned (.tuple #[]) ∧ (∃ v', Grow w' base kb nm ks v' ∧ OwnNew w v v') ∧ Chg w w' (fun b => b = kb ∨ some b = v.ownBlock)

set_option maxHeartbeats 800000 in
theorem put_any (w : World) (base kb : Nat) (nm : ByteArray) (ks ks2 : List Tree) (v : Value) (ad : Addr) (c : Nat) (news : List Value) (ok2 : Nat → Prop) (h : Grow w base kb nm ks v)
    (h2 : RowOf w ok2 ks2 news) (hok2 : ∀ b, ok2 b → base ≤ b ∧ b < w.heap.size ∧ some b ≠ v.ownBlock) (hnews : ∀ j u, news[j]? = some u → w.cell? (ad.add j) = some u) (hm : 0 < ks2.length) (hn : ks.length + ks2.length ≤ 1000000) (hB : base ≤ w.heap.size) :
    Calls Tryd.prog 21 #[.slice (some ad) ks2.length c, .pointer (some ⟨kb, 0, none⟩)] w (PutPost w base kb nm (ks ++ ks2) v) := by
  obtain ⟨i0, hi, hz0, hz1, hz2⟩ := info_elem
  obtain ⟨xs, ok, ho, hr, hok⟩ := h.row
  have c2 := cell_of_heap (x := 2) h.box
  have f2 := free_of_heap (x := 2) h.box
  simp at c2
  have hkb := h.kb_lt
  have hlow := h.low
  have HO := Lib.hid ho
  have HH := Lib.hid h
  have HR := Lib.hid hr
  have HOK := Lib.hid hok
  have HR2 := Lib.hid h2
  have HOK2 := Lib.hid hok2
  have HN := Lib.hid hnews
  have HL := Lib.hid (RowOf.length h2)
  have H1 := Lib.hid (RowOf.oneCell h2)
  clear h ho hr hok h2 hok2 hnews
  go_enter Tryd.func21, Tryd.ntmps21
  go_wp2_with (at_builtin; refine wpList_append_lies _ rfl _ _ 22 rfl base 24 i0 _ 3 56 Tryd.underlying22 hi hz0 hz1 hz2 rfl (by decide) v ks.length xs rfl HO.out ad ks2.length c news rfl HL.out HN.out H1.out hm ?c1 ?c2 hB _ rfl ?_)
  case c1 => simp only [maxLen]; omega
  case c2 => omega
  intro g cap w1 hown hgr hat hlt
  have hkv : some kb ≠ v.ownBlock := fun e => by have := (HH.out.own_lt e.symm).1; omega
  have d2 : w1.cell? ⟨kb, 2, none⟩ = some v := hgr.cell c2 hkv
  have e2 : w1.frozen? ⟨kb, 2, none⟩ = false := by rw [hgr.frozen_far _ hkb hkv]; exact f2
  have HP := Lib.hid (Grow.push (w' := w1.setCell ⟨kb, 2, none⟩ (.slice (some ⟨g, 0, none⟩) (ks.length + ks2.length) cap)) HH.out HR.out HOK.out HR2.out HOK2.out hown hgr hat hlt rfl)
  have HA := Lib.hid hat
  clear hown hgr hat hlt hkv
  go_wp2
  go_end0
  refine ⟨rfl, ⟨_, HP.out.1, fun g' hg' => ?_⟩, HP.out.2⟩
  simp only [Value.ownBlock, Option.some.injEq] at hg'
  subst hg'
  rcases HA.out with h | h
  · exact .inl h
  · exact .inr (by omega)

end Go.Proofs.YtnnfcbebjbfkoaaDoor

/-
  THE WALKS of chapter 22's Due: fits, behind, the closures.
-/
namespace Go.Proofs.YtnnfcbebjbfkoaaDoor
open Go.RowKit

def fitsB (r : RuleV) (key : ByteArray) : Bool := r.on && Lib.hasPrefix key.data.toList r.pre.data.toList
def behindB (now when_ n : Int) : Bool := decide (0 < n ∧ when_ ≤ now ∧ n * 86400 ≤ now - when_)
def RuleV.val (r : RuleV) : Value := .agg #[.string r.id, .string r.pre, .bool r.on, .int .i64 r.days, .int .i64 r.nonc, .int .i64 r.abort]

set_option maxHeartbeats 400000 in
theorem fits_any (r : RuleV) (key : ByteArray) (w : World) :
    Calls Tryd.prog 26 #[r.val, .string key] w fun e w' => e = .returned (.bool (fitsB r key)) ∧ Below w.heap.size w w' := by
  obtain ⟨id, pre, on, d, n, a⟩ := r
  cases on
  · go_enter Tryd.func26, Tryd.ntmps26
    simp only [RuleV.val]
    go_wp2_with (go_at_call 42; refine (Tryd.strings_HasPrefix _ _ _).mono ?_; rintro e w' ⟨rfl, rfl⟩)
    go_ret
    exact ⟨rfl, (Below.refl _ _).alloc (Nat.le_refl _) _⟩
  · go_enter Tryd.func26, Tryd.ntmps26
    simp only [RuleV.val]
    go_wp2_with (go_at_call 42; refine (Tryd.strings_HasPrefix _ _ _).mono ?_; rintro e w' ⟨rfl, rfl⟩)
    go_ret
    exact ⟨by simp [fitsB], (Below.refl _ _).alloc (Nat.le_refl _) _⟩

theorem behind_num (now when_ n : Int) (h1 : -9223372036854775808 ≤ now) (h2 : now ≤ 9223372036854775807) (h3 : -9223372036854775808 ≤ when_) (hn : 0 < n) (_h4 : when_ ≤ now) :
    decide (n ≤ IntKind.u64.wrap ((IntKind.u64.wrap (wrap64 (now - when_))).tdiv 86400)) = behindB now when_ n := by
  have e1 : IntKind.u64.wrap (wrap64 (now - when_)) = now - when_ := by rw [IntKind.wrap_u64]; unfold wrap64; omega
  rw [e1, Int.tdiv_eq_ediv_of_nonneg (by omega), IntWalk.u64_in _ (by omega)]
  unfold behindB
  rw [Bool.eq_iff_iff]
  simp only [decide_eq_true_iff]
  omega

set_option maxHeartbeats 400000 in
theorem behind_any (now when_ n : Int) (w : World) (h1 : -9223372036854775808 ≤ now) (h2 : now ≤ 9223372036854775807) (h3 : -9223372036854775808 ≤ when_) (_h4 : when_ ≤ 9223372036854775807) (h5 : n ≤ 9223372036854775807) :
    Calls Tryd.prog 29 #[.int .i64 now, .int .i64 when_, .int .i64 n] w fun e w' => e = .returned (.bool (behindB now when_ n)) ∧ w' = w := by
  by_cases hn : 0 < n
  · by_cases hw : when_ ≤ now
    · go_enter Tryd.func29, Tryd.ntmps29
      go_wp2
      go_ret
      exact ⟨by rw [← behind_num now when_ n h1 h2 h3 hn hw]; rfl, rfl⟩
    · go_enter Tryd.func29, Tryd.ntmps29
      go_wp2
      go_ret
      exact ⟨by simp [behindB]; omega, rfl⟩
  · go_enter Tryd.func29, Tryd.ntmps29
    go_wp2
    go_ret
    exact ⟨by simp [behindB]; omega, rfl⟩


/-- a version: its blobs are a slice that nobody here looks into -/
structure VersionV where
  seq : Int
  null : Bool
  marker : Bool
  etag : ByteArray
  typ : ByteArray
  size : Int
  when_ : Int
  bA : Option Addr
  bN : Nat
  bC : Nat
def VersionV.cells (v : VersionV) : List Value := [.int .i64 v.seq, .bool v.null, .bool v.marker, .string v.etag, .string v.typ, .int .i64 v.size, .int .i64 v.when_, .slice v.bA v.bN v.bC]

/-- the first closure of Due: not fits -/
theorem notFits_any (r : RuleV) (key : ByteArray) (g : Nat) (w : World) (hc : w.cell? ⟨g, 0, none⟩ = some (.string key)) :
    Calls Tryd.prog 25 #[r.val, .pointer (some ⟨g, 0, none⟩)] w fun e w' => e = .returned (.bool (!fitsB r key)) ∧ Below w.heap.size w w' := by
  obtain ⟨id, pre, on, d, n, a⟩ := r
  have hg : g < w.heap.size := World.block_lt_of_cell? w _ hc
  go_enter Tryd.func25, Tryd.ntmps25
  simp only [RuleV.val]
  go_wp2_with (go_at_call 26; refine (fits_any ⟨id, pre, on, d, n, a⟩ _ _).mono ?_; rintro e w' ⟨rfl, hb⟩)
  go_ret
  exact ⟨rfl, ((Below.refl _ _).alloc (Nat.le_refl _) _).trans (hb.mono (by simp))⟩


set_option maxHeartbeats 400000 in
/-- the second closure of Due at a version that is not the newest -/
theorem late_old (r : RuleV) (bi bn bv bw b off n c k : Nat) (now when_ : Int) (w : World) (hn : n ≤ 140737488351232) (hk : k + 1 < n) (o1 : IntOK now) (o2 : IntOK when_) (o3 : IntOK r.nonc)
    (c1 : w.cell? ⟨bi, 0, none⟩ = some (.int .i64 ((k : Int) + 1))) (c2 : w.cell? ⟨bn, 0, none⟩ = some (.int .i64 now)) (c3 : w.cell? ⟨bv, 0, none⟩ = some (.slice (some ⟨b, off, none⟩) n c))
    (c4 : w.cell? ⟨b, off + k * 8 + 6, none⟩ = some (.int .i64 when_)) :
    Calls Tryd.prog 28 #[r.val, .pointer (some ⟨bi, 0, none⟩), .pointer (some ⟨bn, 0, none⟩), .pointer (some ⟨bv, 0, none⟩), .pointer (some ⟨bw, 0, none⟩)] w fun e w' => e = .returned (.bool (behindB now when_ r.nonc)) ∧ Below w.heap.size w w' := by
  obtain ⟨id, pre, on, d, nc, a⟩ := r
  obtain ⟨o1a, o1b⟩ := o1; obtain ⟨o2a, o2b⟩ := o2; obtain ⟨o3a, o3b⟩ := o3
  have g1 := World.block_lt_of_cell? w _ c1
  have g2 := World.block_lt_of_cell? w _ c2
  have g3 := World.block_lt_of_cell? w _ c3
  have g4 := World.block_lt_of_cell? w _ c4
  simp only at g1 g2 g3 g4 o3a o3b
  go_enter Tryd.func28, Tryd.ntmps28
  simp only [RuleV.val]
  go_wp2
  go_quiet ((go_at_call 29; exact Calls.quiet_of_same (behind_any _ _ _ _ (by assumption) (by assumption) (by assumption) (by assumption) (by assumption))))
  go_wp2
  go_ret
  exact ⟨rfl, (by repeat (first | exact Below.refl _ _ | assumption | (refine below_drewN ?_ _) | (refine Below.alloc ?_ (by first | (simp; done) | (simp; omega) | omega) _) | (refine Below.setCell ?_ (by first | (simp; done) | (simp; omega) | omega) _)))⟩

set_option maxHeartbeats 400000 in
/-- .. at the newest version, a marker -/
theorem late_marker (r : RuleV) (bi bn bv bw n c : Nat) (a : Option Addr) (w : World) (hn : n ≤ 140737488351232)
    (c1 : w.cell? ⟨bi, 0, none⟩ = some (.int .i64 0)) (c3 : w.cell? ⟨bv, 0, none⟩ = some (.slice a n c)) (c4 : w.cell? ⟨bw, 2, none⟩ = some (.bool true)) :
    Calls Tryd.prog 28 #[r.val, .pointer (some ⟨bi, 0, none⟩), .pointer (some ⟨bn, 0, none⟩), .pointer (some ⟨bv, 0, none⟩), .pointer (some ⟨bw, 0, none⟩)] w fun e w' => e = .returned (.bool (n == 1 && decide (0 < r.days))) ∧ Below w.heap.size w w' := by
  obtain ⟨id, pre, on, d, nc, ab⟩ := r
  have g1 := World.block_lt_of_cell? w _ c1
  have g3 := World.block_lt_of_cell? w _ c3
  have g4 := World.block_lt_of_cell? w _ c4
  simp only at g1 g3 g4
  by_cases h1 : n = 1
  · subst h1
    go_enter Tryd.func28, Tryd.ntmps28
    simp only [RuleV.val]
    go_wp2
    go_ret
    exact ⟨rfl, (by repeat (first | exact Below.refl _ _ | assumption | (refine below_drewN ?_ _) | (refine Below.alloc ?_ (by first | (simp; done) | (simp; omega) | omega) _) | (refine Below.setCell ?_ (by first | (simp; done) | (simp; omega) | omega) _)))⟩
  · go_enter Tryd.func28, Tryd.ntmps28
    simp only [RuleV.val]
    go_wp2
    go_ret
    exact ⟨by simp [h1], (by repeat (first | exact Below.refl _ _ | assumption | (refine below_drewN ?_ _) | (refine Below.alloc ?_ (by first | (simp; done) | (simp; omega) | omega) _) | (refine Below.setCell ?_ (by first | (simp; done) | (simp; omega) | omega) _)))⟩

set_option maxHeartbeats 400000 in
/-- .. at the newest version, no marker -/
theorem late_new (r : RuleV) (bi bn bv bw : Nat) (now when_ : Int) (w : World) (o1 : IntOK now) (o2 : IntOK when_) (o3 : IntOK r.days)
    (c1 : w.cell? ⟨bi, 0, none⟩ = some (.int .i64 0)) (c2 : w.cell? ⟨bn, 0, none⟩ = some (.int .i64 now)) (c4 : w.cell? ⟨bw, 2, none⟩ = some (.bool false)) (c5 : w.cell? ⟨bw, 6, none⟩ = some (.int .i64 when_)) :
    Calls Tryd.prog 28 #[r.val, .pointer (some ⟨bi, 0, none⟩), .pointer (some ⟨bn, 0, none⟩), .pointer (some ⟨bv, 0, none⟩), .pointer (some ⟨bw, 0, none⟩)] w fun e w' => e = .returned (.bool (behindB now when_ r.days)) ∧ Below w.heap.size w w' := by
  obtain ⟨id, pre, on, d, nc, ab⟩ := r
  obtain ⟨o1a, o1b⟩ := o1; obtain ⟨o2a, o2b⟩ := o2; obtain ⟨o3a, o3b⟩ := o3
  have g1 := World.block_lt_of_cell? w _ c1
  have g2 := World.block_lt_of_cell? w _ c2
  have g4 := World.block_lt_of_cell? w _ c4
  simp only at g1 g2 g4 o3a o3b
  go_enter Tryd.func28, Tryd.ntmps28
  simp only [RuleV.val]
  go_wp2_with (go_at_call 29; refine (behind_any _ _ _ _ (by assumption) (by assumption) (by assumption) (by assumption) (by assumption)).mono ?_; rintro e w' ⟨rfl, rfl⟩)
  go_ret
  exact ⟨rfl, (by repeat (first | exact Below.refl _ _ | assumption | (refine below_drewN ?_ _) | (refine Below.alloc ?_ (by first | (simp; done) | (simp; omega) | omega) _) | (refine Below.setCell ?_ (by first | (simp; done) | (simp; omega) | omega) _)))⟩

end Go.Proofs.YtnnfcbebjbfkoaaDoor

/-
  slices.DeleteFunc at rules, over Due's first closure, on a clone of the call's own.
-/
namespace Go.Proofs.YtnnfcbebjbfkoaaDoor
open Go.RowKit

/-- cells hold the rule r from x on -/
def HasRule (cur : Array Value) (x : Nat) (r : RuleV) : Prop := ∀ c, c < 6 → cur[x + c]? = r.cells[c]?

structure DelInv (zs : List RuleV) (p : RuleV → Bool) (cap j i : Nat) (cur : Array Value) : Prop where
  size : cur.size = cap * 6
  len : i = ((zs.take j).filter p).length
  low : ∀ a r, ((zs.take j).filter p)[a]? = some r → HasRule cur (a * 6) r
  high : ∀ a r, j ≤ a → zs[a]? = some r → HasRule cur (a * 6) r

theorem HasRule.cells {cur : Array Value} {x : Nat} {r : RuleV} (h : HasRule cur x r) : cur[x]? = some (.string r.id) ∧ cur[x + 1]? = some (.string r.pre) ∧ cur[x + 2]? = some (.bool r.on) ∧ cur[x + 3]? = some (.int .i64 r.days) ∧ cur[x + 4]? = some (.int .i64 r.nonc) ∧ cur[x + 5]? = some (.int .i64 r.abort) :=
  ⟨h 0 (by omega), h 1 (by omega), h 2 (by omega), h 3 (by omega), h 4 (by omega), h 5 (by omega)⟩

/-- six stores -/
def set6 (cur : Array Value) (x : Nat) (r : RuleV) : Array Value :=
  (((((cur.setIfInBounds x (.string r.id)).setIfInBounds (x + 1) (.string r.pre)).setIfInBounds (x + 2) (.bool r.on)).setIfInBounds (x + 3) (.int .i64 r.days)).setIfInBounds (x + 4) (.int .i64 r.nonc)).setIfInBounds (x + 5) (.int .i64 r.abort)
theorem set6_size (cur : Array Value) (x : Nat) (r : RuleV) : (set6 cur x r).size = cur.size := by simp [set6]
theorem set6_other (cur : Array Value) (x y : Nat) (r : RuleV) (h : y < x ∨ x + 6 ≤ y) : (set6 cur x r)[y]? = cur[y]? := by
  simp only [set6, Array.getElem?_setIfInBounds]
  repeat rw [if_neg (by omega)]
theorem set6_has (cur : Array Value) (x : Nat) (r : RuleV) (h : x + 6 ≤ cur.size) : HasRule (set6 cur x r) x r := by
  intro c hc
  have : c = 0 ∨ c = 1 ∨ c = 2 ∨ c = 3 ∨ c = 4 ∨ c = 5 := by omega
  rcases this with rfl | rfl | rfl | rfl | rfl | rfl <;> simp [set6, Array.getElem?_setIfInBounds, RuleV.cells] <;> omega

theorem take_filter_succ (zs : List RuleV) (p : RuleV → Bool) (j : Nat) (h : j < zs.length) : (zs.take (j + 1)).filter p = (zs.take j).filter p ++ if p zs[j] then [zs[j]] else [] := by
  rw [List.take_succ_eq_append_getElem h, List.filter_append]
  cases hp : p zs[j] <;> simp [hp]

theorem DelInv.le {zs : List RuleV} {p : RuleV → Bool} {cap j i : Nat} {cur : Array Value} (h : DelInv zs p cap j i cur) : i ≤ j := by
  rw [h.len]; exact Nat.le_trans (List.length_filter_le _ _) (List.length_take_le _ _)

theorem DelInv.keep {zs : List RuleV} {p : RuleV → Bool} {cap j i : Nat} {cur : Array Value} (h : DelInv zs p cap j i cur) (hj : j < zs.length) (hc : zs.length ≤ cap) (hp : p zs[j] = true) :
    DelInv zs p cap (j + 1) (i + 1) (set6 cur (i * 6) zs[j]) := by
  have hij := h.le
  have e := take_filter_succ zs p j hj
  rw [hp] at e
  simp only [if_true] at e
  refine ⟨by rw [set6_size, h.size], by rw [e, List.length_append, ← h.len]; rfl, fun a r ha => ?_, fun a r hja ha => ?_⟩
  · rw [e] at ha
    by_cases hai : a < i
    · rw [List.getElem?_append_left (by rw [← h.len]; exact hai)] at ha
      have := h.low a r ha
      intro c hc'
      rw [set6_other _ _ _ _ (by omega)]; exact this c hc'
    · have hai' : a = i := by
        have := (List.getElem?_eq_some_iff.1 ha).1
        rw [List.length_append, ← h.len] at this
        simp at this; omega
      subst hai'
      rw [List.getElem?_append_right (by rw [← h.len]; exact Nat.le_refl _), ← h.len] at ha
      simp at ha
      subst ha
      exact set6_has _ _ _ (by rw [h.size]; have := Nat.mul_le_mul_right 6 (show a + 1 ≤ cap by omega); omega)
  · have := h.high a r (by omega) ha
    intro c hc'
    rw [set6_other _ _ _ _ (by have := Nat.mul_le_mul_right 6 (show i + 1 ≤ a by omega); omega)]; exact this c hc'

theorem DelInv.drop {zs : List RuleV} {p : RuleV → Bool} {cap j i : Nat} {cur : Array Value} (h : DelInv zs p cap j i cur) (hj : j < zs.length) (hp : p zs[j] = false) :
    DelInv zs p cap (j + 1) i cur := by
  have e := take_filter_succ zs p j hj
  rw [hp] at e
  simp only [Bool.false_eq_true, if_false, List.append_nil] at e
  exact ⟨h.size, by rw [e]; exact h.len, fun a r ha => by rw [e] at ha; exact h.low a r ha, fun a r hja ha => h.high a r (by omega) ha⟩


theorem idx_cases (q : RuleV → Bool) [Inhabited RuleV] : ∀ (l : List RuleV) (i : Nat),
    (Lib.idxByFrom (fun _ y => !q y) default l i = -1 ∧ ∀ y ∈ l, q y = true) ∨
    ∃ k, k < l.length ∧ Lib.idxByFrom (fun _ y => !q y) default l i = ((i + k : Nat) : Int) ∧ (∀ y ∈ l.take k, q y = true) ∧ ∃ y, l[k]? = some y ∧ q y = false
  | [], _ => .inl ⟨rfl, by simp⟩
  | y :: l, i => by
    cases h : q y with
    | false => exact .inr ⟨0, by simp, by simp [Lib.idxByFrom, h], by simp, y, by simp, h⟩
    | true =>
      rcases idx_cases q l (i + 1) with ⟨e, ha⟩ | ⟨k, hk, e, ha, z, hz, hq⟩
      · exact .inl ⟨by simp [Lib.idxByFrom, h, e], by simpa [h] using ha⟩
      · refine .inr ⟨k + 1, by simpa using hk, ?_, by simpa [h] using ha, z, by simpa using hz, hq⟩
        simp only [Lib.idxByFrom, h, Bool.not_true, Bool.false_eq_true, if_false, e]
        congr 1; omega

theorem DelInv.start {zs : List RuleV} {q : RuleV → Bool} {cap k : Nat} {cur : Array Value} (hs : cur.size = cap * 6) (hr : ∀ a r, zs[a]? = some r → HasRule cur (a * 6) r)
    (hk : k < zs.length) (ha : ∀ y ∈ zs.take k, q y = true) (y : RuleV) (hy : zs[k]? = some y) (hq : q y = false) : DelInv zs q cap (k + 1) k cur := by
  have e : (zs.take (k + 1)).filter q = zs.take k := by
    rw [take_filter_succ zs q k hk]
    have : zs[k] = y := by rw [List.getElem?_eq_getElem hk] at hy; exact Option.some.inj hy
    rw [this, hq, List.filter_eq_self.2 ha]; simp
  refine ⟨hs, by rw [e]; simp; omega, fun a r h => ?_, fun a r _ h => hr a r h⟩
  rw [e, List.getElem?_take] at h
  split at h
  · exact hr a r h
  · cases h

instance : Inhabited RuleV := ⟨⟨ByteArray.empty, ByteArray.empty, false, 0, 0, 0⟩⟩

theorem isAgg_rule (w : World) : (isAgg 34).run Tryd.prog w = .ok true w := Tryd.isAgg34 w
theorem sizeOf_rule (w : World) : (Go.sizeOf 34).run Tryd.prog w = .ok 6 w := Tryd.sizeOf34 w

end Go.Proofs.YtnnfcbebjbfkoaaDoor

/-
  slices.DeleteFunc at rules: the walk.
-/
namespace Go.Proofs.YtnnfcbebjbfkoaaDoor
open Go.RowKit

theorem zero_rule (w : World) : (zeroValue 34).run Tryd.prog w = .ok (.agg #[.string ⟨#[]⟩, .string ⟨#[]⟩, .bool false, .int .i64 0, .int .i64 0, .int .i64 0]) w := Tryd.zeroValue34 w

theorem zeroCells_one (z : Array Value) (n : Nat) (hz : 0 < z.size) (h : ∀ u ∈ z.toList, u.oneCell' = true) : ∀ v ∈ (Builtin.zeroCells z n).toList, v.oneCell' = true := by
  intro v hv
  simp only [Builtin.zeroCells, Array.toList_map, List.mem_map] at hv
  obtain ⟨i, _, rfl⟩ := hv
  have hlt : i % z.size < z.size := Nat.mod_lt _ hz
  rw [getElem!_pos z _ hlt]
  exact h _ (by simp)

/-- behind the clearing of a slice's tail: the cells ahead of it are as they were, the row is still one, and nothing else has turned -/
theorem clear_tail (w : World) (g i n c cap : Nat) (cur : Array Value) (h : w.heap[g]? = some (.cells cur 34 (0, 0))) (hs : cur.size = cap * 6) (hin : i + n ≤ cap) (hn : 0 < n) :
    ∃ cur', (Builtin.clear_ #[26] 0 #[.slice (some ⟨g, i * 6, none⟩) n c]).run Tryd.prog w = .ok (.tuple #[]) (w.setRow g cur') ∧ cur'.size = cap * 6 ∧ ∀ x, x < i * 6 → cur'[x]? = cur[x]? := by
  have hzl : (Builtin.zeroCells (Value.agg #[.string ⟨#[]⟩, .string ⟨#[]⟩, .bool false, .int .i64 0, .int .i64 0, .int .i64 0]).cells n).toList.length = n * 6 := by
    rw [Array.length_toList, size_zeroCells]; rfl
  have h1 := zeroCells_one (Value.agg #[.string ⟨#[]⟩, .string ⟨#[]⟩, .bool false, .int .i64 0, .int .i64 0, .int .i64 0]).cells n (by simp [Value.cells]) (by simp [Value.cells, Value.oneCell'])
  obtain ⟨m, rfl⟩ : ∃ m, n = m + 1 := ⟨n - 1, by omega⟩
  have hrun : (Builtin.clear_ #[26] 0 #[.slice (some ⟨g, i * 6, none⟩) (m + 1) c]).run Tryd.prog w = ((storeCells ⟨g, i * 6, none⟩ (Builtin.zeroCells (Value.agg #[.string ⟨#[]⟩, .string ⟨#[]⟩, .bool false, .int .i64 0, .int .i64 0, .int .i64 0]).cells (m + 1)).toList).run Tryd.prog w).andThen fun _ w' => .ok (.tuple #[]) w' := by
    simp [Builtin.clear_, run_underlying Tryd.underlying26]
  revert hzl h1 hrun
  generalize (Builtin.zeroCells (Value.agg #[.string ⟨#[]⟩, .string ⟨#[]⟩, .bool false, .int .i64 0, .int .i64 0, .int .i64 0]).cells (m + 1)).toList = Z
  intro hzl h1 hrun
  have hfit := Nat.mul_le_mul_right 6 hin
  have hst := run_storeCells_at (P := Tryd.prog) g (i * 6) 34 Z 0 cur w h (by rw [hzl, hs]; omega) h1
  simp only [Nat.add_zero, hzl] at hst
  rw [hst] at hrun
  refine ⟨_, hrun, ?_, fun x hx => ?_⟩
  · simp only [List.size_toArray, List.length_append, List.length_take, List.length_drop, Array.length_toList, hzl, hs]
    omega
  · simp only [List.getElem?_toArray, List.append_assoc]
    rw [List.getElem?_append_left (by simp [hs]; omega), List.getElem?_take, if_pos hx, Array.getElem?_toList]

theorem old6 (cu : Array Value) (cap i : Nat) (h : cu.size = cap * 6) (hi : i < cap) : ∃ o0 o1 o2 o3 o4 o5, cu[i * 6]? = some o0 ∧ cu[i * 6 + 1]? = some o1 ∧ cu[i * 6 + 2]? = some o2 ∧ cu[i * 6 + 3]? = some o3 ∧ cu[i * 6 + 4]? = some o4 ∧ cu[i * 6 + 5]? = some o5 := by
  have := Nat.mul_le_mul_right 6 (show i + 1 ≤ cap by omega)
  exact ⟨_, _, _, _, _, _, Array.getElem?_eq_getElem (by omega), Array.getElem?_eq_getElem (by omega), Array.getElem?_eq_getElem (by omega), Array.getElem?_eq_getElem (by omega), Array.getElem?_eq_getElem (by omega), Array.getElem?_eq_getElem (by omega)⟩

theorem set6_heap {w : World} {g x : Nat} {cur : Array Value} {t : TypeId} (r : RuleV) (h : w.heap[g]? = some (.cells cur t (0, 0))) :
    ((((((w.setCell ⟨g, x, none⟩ (.string r.id)).setCell ⟨g, x + 1, none⟩ (.string r.pre)).setCell ⟨g, x + 2, none⟩ (.bool r.on)).setCell ⟨g, x + 3, none⟩ (.int .i64 r.days)).setCell ⟨g, x + 4, none⟩ (.int .i64 r.nonc)).setCell ⟨g, x + 5, none⟩ (.int .i64 r.abort)).heap[g]? = some (.cells (set6 cur x r) t (0, 0)) :=
  heap_set (heap_set (heap_set (heap_set (heap_set (heap_set h _) _) _) _) _) _

theorem DelInv.keep' {zs : List RuleV} {p : RuleV → Bool} {cap j i : Nat} {cur : Array Value} {u : RuleV} (h : DelInv zs p cap j i cur) (hu : zs[j]? = some u) (hc : zs.length ≤ cap) (hp : p u = true) :
    DelInv zs p cap (j + 1) (i + 1) (set6 cur (i * 6) u) := by
  obtain ⟨hj, rfl⟩ := List.getElem?_eq_some_iff.1 hu
  exact h.keep hj hc hp
theorem DelInv.drop' {zs : List RuleV} {p : RuleV → Bool} {cap j i : Nat} {cur : Array Value} {u : RuleV} (h : DelInv zs p cap j i cur) (hu : zs[j]? = some u) (hp : p u = false) : DelInv zs p cap (j + 1) i cur := by
  obtain ⟨hj, rfl⟩ := List.getElem?_eq_some_iff.1 hu
  exact h.drop hj hp

set_option maxHeartbeats 1000000 in
set_option maxRecDepth 100000 in
theorem del_walk (q : RuleV → Bool) (zs : List RuleV) (B g cap kb : Nat) (cur : Array Value) (w : World) (hz : zs.length ≤ cap) (hcap : cap ≤ 9223372036854775807) (hB : B ≤ g)
    (hg : w.heap[g]? = some (.cells cur 34 (0, 0))) (hs : cur.size = cap * 6) (hr : ∀ a r, zs[a]? = some r → HasRule cur (a * 6) r)
    (hp : ∀ W r, Below B w W → Calls Tryd.prog 25 #[r.val, .pointer (some ⟨kb, 0, none⟩)] W fun e W' => e = .returned (.bool (!q r)) ∧ Below W.heap.size W W') :
    Calls Tryd.prog 23 #[.slice (some ⟨g, 0, none⟩) zs.length cap, .func (.func 25) #[] #[.pointer (some ⟨kb, 0, none⟩)]] w
      fun e w' => e = .returned (.slice (some ⟨g, 0, none⟩) (zs.filter q).length cap) ∧ ∃ cur', w'.heap[g]? = some (.cells cur' 34 (0, 0)) ∧ cur'.size = cap * 6 ∧ (∀ a r, (zs.filter q)[a]? = some r → HasRule cur' (a * 6) r) ∧ Below B w w' := by
  have hgl : g < w.heap.size := (Array.getElem?_eq_some_iff.1 hg).1
  obtain ⟨n, hn⟩ : ∃ n, n = zs.length := ⟨_, rfl⟩
  have hIF := Tryd.slices_IndexFunc_f41 6 isAgg_rule sizeOf_rule RuleV.cells (fun _ => rfl) (fun r => !q r) 25 #[.pointer (some ⟨kb, 0, none⟩)] (fun _ _ => by kernel_rfl) g 0 zs.length cap zs w
    (fun W x hb => (hp W x (hb.mono (by omega))).mono fun _ _ ⟨he, hb'⟩ => ⟨he, hb.trans (hb'.mono hb.size)⟩) (Nat.le_refl _) (by omega) hgl
    (fun j hj i v hv => by
      rw [show (⟨g, 0 + j * 6 + i, none⟩ : Addr) = ⟨g, j * 6 + i, none⟩ from by rw [Nat.zero_add], cell_of_heap hg]
      have hi : i < 6 := by
        have := (List.getElem?_eq_some_iff.1 hv).1
        simpa [RuleV.cells] using this
      rw [hr j zs[j]! (by rw [getElem!_pos zs j hj, List.getElem?_eq_getElem hj]) i hi, hv])
  rw [show zs.take zs.length = zs from List.take_of_length_le (Nat.le_refl _)] at hIF
  rcases idx_cases q zs 0 with ⟨e1, hall⟩ | ⟨k0, hk0, e1, ha, y, hy, hq⟩
  · have e2 : Lib.idxBy (fun _ y => !q y) zs default = -1 := e1
    rw [e2] at hIF
    have e3 : zs.filter q = zs := List.filter_eq_self.2 hall
    have HR := Lib.hid hr
    have HIF := Lib.hid hIF
    have HG := Lib.hid hg
    clear hr hp hall e1 e2 hIF hg
    rw [e3]
    clear e3
    generalize hn : zs.length = n at *
    have HN := Lib.hid hn
    clear hn
    go_enter Tryd.func23, Tryd.ntmps23
    go_wp2_with (go_at_call 41; refine (HIF.out).mono ?_; rintro e w1 ⟨rfl, hb⟩)
    go_ret
    exact ⟨rfl, cur, by rw [hb.block g hgl]; exact HG.out, hs, HR.out, hb.mono (by omega)⟩
  · have e2 : Lib.idxBy (fun _ y => !q y) zs default = ((k0 : Nat) : Int) := by
      have := e1
      rw [Nat.zero_add] at this
      exact this
    rw [e2] at hIF
    have HI0 := Lib.hid (DelInv.start hs hr hk0 ha y hy hq)
    have HR := Lib.hid hr
    have HIF := Lib.hid hIF
    have HG := Lib.hid hg
    have HP := Lib.hid hp
    clear hr hp ha hy hq e1 e2 hIF hg
    obtain ⟨n, hn⟩ : ∃ n, Hid (zs.length = n) := ⟨_, rfl⟩
    rw [hn.out] at hk0 hz HIF ⊢
    have hne1 : ((k0 : Int) == -1) = false := beq_eq_false_iff_ne.2 (by omega)
    go_enter Tryd.func23, Tryd.ntmps23
    go_wp2_with (go_at_call 41; refine (HIF.out).mono ?_; rintro e w1 ⟨rfl, hb⟩)
    go_loopg [5, 6, 7] n (fun gg s5 s6 _ wr => ∃ (i j : Nat) (cu : Array Value), s5 = .int .i64 i ∧ s6 = .int .i64 j ∧ j ≤ n ∧ n - j ≤ gg ∧ i < j ∧ Hid (wr.heap[g]? = some (.cells cu 34 (0, 0))) ∧ Hid (DelInv zs q cap j i cu) ∧ Hid (Below B w wr))
    case atStart => exact ⟨k0, k0 + 1, cur, rfl, by go_num, by omega, by omega, by omega, by show w1.heap[g]? = _; rw [hb.block g hgl]; exact HG.out, HI0.out, hb.mono (by omega)⟩
    case round =>
      obtain ⟨i, j, cu, rfl, rfl, hjn, hgg, hij, GH, DI, BW⟩ := hrel
      by_cases hlt : j < n
      · have hltz : (j : Int) < (n : Int) := by omega
        have hgr : g < wr.heap.size := (Array.getElem?_eq_some_iff.1 GH.out).1
        have hjz : j < zs.length := by rw [hn.out]; exact hlt
        obtain ⟨u, HU⟩ : ∃ u, Hid (zs[j]? = some u) := ⟨_, List.getElem?_eq_getElem hjz⟩
        obtain ⟨f0, f1, f2, f3, f4, f5⟩ := (DI.out.high j u (Nat.le_refl _) HU.out).cells
        have e0 : wr.cell? ⟨g, j * 6, none⟩ = _ := (cell_of_heap GH.out).trans f0
        have e1 : wr.cell? ⟨g, j * 6 + 1, none⟩ = _ := (cell_of_heap GH.out).trans f1
        have e2 : wr.cell? ⟨g, j * 6 + 2, none⟩ = _ := (cell_of_heap GH.out).trans f2
        have e3 : wr.cell? ⟨g, j * 6 + 3, none⟩ = _ := (cell_of_heap GH.out).trans f3
        have e4 : wr.cell? ⟨g, j * 6 + 4, none⟩ = _ := (cell_of_heap GH.out).trans f4
        have e5 : wr.cell? ⟨g, j * 6 + 5, none⟩ = _ := (cell_of_heap GH.out).trans f5
        clear f0 f1 f2 f3 f4 f5 hjz
        go_wp2_with fail
        refine (HP.out _ u (BW.out.alloc (by omega) _)).mono ?_
        rintro e w2 ⟨rfl, hb2⟩
        have hz2 : wr.heap.size < w2.heap.size := by have := hb2.size; simp at this; omega
        have GH2 : Hid (w2.heap[g]? = some (.cells cu 34 (0, 0))) := by
          show w2.heap[g]? = _
          rw [hb2.block g (by simp; omega), Below.heap_alloc _ _ _ hgr]; exact GH.out
        have BW2 : Hid (Below B w w2) := (BW.out.alloc (by omega) _).trans (hb2.mono (by simp; omega))
        have v0 : w2.cell? ⟨wr.heap.size, 0, none⟩ = some (.string u.id) := by rw [hb2.cell (by simp)]; simp
        have v1 : w2.cell? ⟨wr.heap.size, 1, none⟩ = some (.string u.pre) := by rw [hb2.cell (by simp)]; simp
        have v2 : w2.cell? ⟨wr.heap.size, 2, none⟩ = some (.bool u.on) := by rw [hb2.cell (by simp)]; simp
        have v3 : w2.cell? ⟨wr.heap.size, 3, none⟩ = some (.int .i64 u.days) := by rw [hb2.cell (by simp)]; simp
        have v4 : w2.cell? ⟨wr.heap.size, 4, none⟩ = some (.int .i64 u.nonc) := by rw [hb2.cell (by simp)]; simp
        have v5 : w2.cell? ⟨wr.heap.size, 5, none⟩ = some (.int .i64 u.abort) := by rw [hb2.cell (by simp)]; simp
        clear e0 e1 e2 e3 e4 e5 hb2
        have hil : i < cap := by omega
        obtain ⟨o0, o1, o2, o3, o4, o5, p0, p1, p2, p3, p4, p5⟩ := old6 cu cap i DI.out.size hil
        have t0 : w2.cell? ⟨g, i * 6, none⟩ = _ := (cell_of_heap GH2.out).trans p0
        have t1 : w2.cell? ⟨g, i * 6 + 1, none⟩ = _ := (cell_of_heap GH2.out).trans p1
        have t2 : w2.cell? ⟨g, i * 6 + 2, none⟩ = _ := (cell_of_heap GH2.out).trans p2
        have t3 : w2.cell? ⟨g, i * 6 + 3, none⟩ = _ := (cell_of_heap GH2.out).trans p3
        have t4 : w2.cell? ⟨g, i * 6 + 4, none⟩ = _ := (cell_of_heap GH2.out).trans p4
        have t5 : w2.cell? ⟨g, i * 6 + 5, none⟩ = _ := (cell_of_heap GH2.out).trans p5
        have fr : ∀ x, w2.frozen? ⟨g, x, none⟩ = false := fun x => free_of_heap GH2.out
        clear p0 p1 p2 p3 p4 p5
        cases hq : q u with
        | true =>
          have HQ := Lib.hid hq
          clear hq
          go_wp2
          go_roundg (n - (j + 1))
          case measure => omega
          case rel =>
            refine ⟨i + 1, j + 1, set6 cu (i * 6) u, by go_num, by go_num, by omega, by omega, by omega, set6_heap u GH2.out, DI.out.keep' HU.out (by rw [hn.out]; exact hz) HQ.out, ?_⟩
            exact (((((BW2.out.setCell (by simp; omega) _).setCell (by simp; omega) _).setCell (by simp; omega) _).setCell (by simp; omega) _).setCell (by simp; omega) _).setCell (by simp; omega) _
        | false =>
          have HQ := Lib.hid hq
          clear hq
          go_wp2
          go_roundg (n - (j + 1))
          case measure => omega
          case rel => exact ⟨i, j + 1, cu, rfl, by go_num, by omega, by omega, by omega, GH2.out, DI.out.drop' HU.out HQ.out, BW2.out⟩
      · have hltz : ¬ (j : Int) < (n : Int) := by omega
        obtain ⟨cu', hrun, hsz, hlow⟩ := clear_tail wr g i (n - i) (cap - i) cap cu GH.out DI.out.size (by omega) (by omega)
        have HS := Lib.hid hsz
        have HL := Lib.hid hlow
        clear hsz hlow
        go_wp2
        go_ret
        obtain rfl : j = n := by omega
        have e : zs.take j = zs := List.take_of_length_le (by rw [hn.out]; exact Nat.le_refl _)
        have hl := DI.out.len
        rw [e] at hl
        refine ⟨by rw [← hl]; rfl, cu', setRow_heap _ _ _ _ _ _ GH.out, HS.out, fun a r ha c hc => ?_, BW.out.trans ⟨rfl, rfl, rfl, by simp [World.setRow], fun k hk => setRow_other _ _ _ _ (by omega)⟩⟩
        have hai : a < i := by rw [hl]; exact (List.getElem?_eq_some_iff.1 ha).1
        rw [HL.out _ (by omega)]
        exact DI.out.low a r (by rw [e]; exact ha) c hc

end Go.Proofs.YtnnfcbebjbfkoaaDoor

/-
  Clone, DeleteFunc, ContainsFunc at whatever slice of rules.
-/
namespace Go.Proofs.YtnnfcbebjbfkoaaDoor
open Go.RowKit

/-- the cells of some rules, one behind the other -/
def flat (l : List RuleV) : List Value := l.flatMap RuleV.cells
theorem flat_length (l : List RuleV) : (flat l).length = l.length * 6 := by
  induction l with
  | nil => rfl
  | cons r l ih => simp only [flat, List.flatMap_cons, List.length_append, List.length_cons] at *; rw [ih]; simp [RuleV.cells]; omega
theorem flat_get (l : List RuleV) : ∀ i r, l[i]? = some r → ∀ c, c < 6 → (flat l)[i * 6 + c]? = r.cells[c]? := by
  induction l with
  | nil => intro i r h; cases h
  | cons x l ih =>
    intro i r h c hc
    cases i with
    | zero =>
      simp at h; subst h
      simp only [flat, List.flatMap_cons]
      rw [List.getElem?_append_left (by simp [RuleV.cells]; omega)]
      congr 1; omega
    | succ i =>
      simp at h
      simp only [flat, List.flatMap_cons]
      rw [List.getElem?_append_right (by simp [RuleV.cells]; omega)]
      have := ih i r h c hc
      rw [← this, flat]
      congr 1
      simp [RuleV.cells]; omega
theorem flat_one (l : List RuleV) : ∀ u ∈ flat l, u.oneCell' = true := by
  intro u hu
  simp only [flat, List.mem_flatMap] at hu
  obtain ⟨r, _, hu⟩ := hu
  simp [RuleV.cells] at hu
  rcases hu with rfl | rfl | rfl | rfl | rfl | rfl <;> rfl

/-- the world's slice v holds the rules l -/
def RulesIn (w : World) (v : Value) (l : List RuleV) : Prop :=
  ∃ a c, v = .slice a l.length c ∧ l.length ≤ 2199023255552 ∧ (0 < l.length → ∃ b off, a = some ⟨b, off, none⟩ ∧ ∀ i r, l[i]? = some r → ∀ j u, r.cells[j]? = some u → w.cell? ⟨b, off + i * 6 + j, none⟩ = some u)

theorem RulesIn.later {w w' : World} {v : Value} {l : List RuleV} (h : RulesIn w v l) (hb : Below w.heap.size w w') : RulesIn w' v l := by
  obtain ⟨a, c, rfl, hl, h⟩ := h
  refine ⟨a, c, rfl, hl, fun hp => ?_⟩
  obtain ⟨b, off, rfl, hc⟩ := h hp
  exact ⟨b, off, rfl, fun i r hr j u hu => by
    have := hc i r hr j u hu
    rw [hb.cell (World.block_lt_of_cell? w _ this)]; exact this⟩

theorem RulesIn.of_own {w : World} {base : Nat} {v : Value} {l : List RuleV} (h : w.ownsRow base 34 6 v l.length (flat l)) (hl : l.length ≤ 2199023255552) : RulesIn w v l := by
  rcases h.2 with ⟨rfl, h0⟩ | ⟨g, cap, cur, rfl, hb, hg, hn, hm, hcs, ht⟩
  · exact ⟨none, 0, by rw [h0], hl, fun hp => by omega⟩
  · refine ⟨_, _, rfl, hl, fun _ => ⟨g, 0, rfl, fun i r hr j u hu => ?_⟩⟩
    have hj : j < 6 := by have := (List.getElem?_eq_some_iff.1 hu).1; simpa [RuleV.cells] using this
    have hi := (List.getElem?_eq_some_iff.1 hr).1
    have := flat_get l i r hr j hj
    rw [Nat.zero_add, cell_of_heap hg, ← hu, ← this, ← ht, List.getElem?_take, if_pos (by omega), Array.getElem?_toList]

set_option maxHeartbeats 400000 in
theorem index_empty (a : Option Addr) (c : Nat) (f : Value) (w : World) :
    Calls Tryd.prog 41 #[.slice a 0 c, f] w fun e w' => e = .returned (.int .i64 (-1)) ∧ w' = w := by
  go_enter Tryd.func41, Tryd.ntmps41
  go_wp2
  refine wp_loop_rounds 1 ?_
  rw [rounds_succ]
  go_wp2
  go_ret
  exact ⟨rfl, rfl⟩

set_option maxHeartbeats 400000 in
theorem contains_empty (a : Option Addr) (c : Nat) (f : Value) (w : World) :
    Calls Tryd.prog 27 #[.slice a 0 c, f] w fun e w' => e = .returned (.bool false) ∧ w' = w := by
  go_enter Tryd.func27, Tryd.ntmps27
  go_wp2_with (go_at_call 41; refine (index_empty _ _ _ _).mono ?_; rintro e w' ⟨rfl, rfl⟩)
  go_ret
  exact ⟨rfl, rfl⟩

set_option maxHeartbeats 400000 in
theorem delete_empty (a : Option Addr) (c : Nat) (f : Value) (w : World) :
    Calls Tryd.prog 23 #[.slice a 0 c, f] w fun e w' => e = .returned (.slice a 0 c) ∧ w' = w := by
  go_enter Tryd.func23, Tryd.ntmps23
  go_wp2_with (go_at_call 41; refine (index_empty _ _ _ _).mono ?_; rintro e w' ⟨rfl, rfl⟩)
  go_ret
  exact ⟨rfl, rfl⟩

theorem append_zero (w : World) (b : Addr) (a : Addr) (c : Nat) (i : TypeInfo) (hi : Tryd.prog.info? 34 = some i) :
    (Builtin.append_ #[26, 26] 26 #[.slice (some b) 0 0, .slice (some a) 0 c]).run Tryd.prog w = .ok (.slice (some b) 0 0) w := by
  simp [Builtin.append_, run_underlying Tryd.underlying26, sizeOf, typeInfo, hi, Builtin.lenOf, Builtin.firstCells, loadCells, loadCellsFrom, storeCells]

set_option maxHeartbeats 400000 in
theorem clone_zero (a : Addr) (c : Nat) (w : World) :
    Calls Tryd.prog 24 #[.slice (some a) 0 c] w fun e w' => e = .returned (.slice (some ⟨w.heap.size, 0, none⟩) 0 0) ∧ w' = w.alloc (.cells #[] 34) := by
  obtain ⟨i, hi⟩ : ∃ i, Tryd.prog.info? 34 = some i := Option.isSome_iff_exists.1 (by kernel_rfl)
  have hap := fun w b => append_zero w b a c i hi
  have hnil := fun w => Lib.run_eql_slice_nil (P := Tryd.prog) w 26 34 (some a) 0 c 0 0 Tryd.underlying26
  go_enter Tryd.func24, Tryd.ntmps24
  go_wp2
  go_ret
  exact ⟨rfl, rfl⟩

/-- slices.Clone at any slice of rules: in memory of its own -/
theorem clone_any (v : Value) (l : List RuleV) (w : World) (h : RulesIn w v l) :
    Calls Tryd.prog 24 #[v] w fun e w' => ∃ v', e = .returned v' ∧ w'.ownsRow w.heap.size 34 6 v' l.length (flat l) ∧ Below w.heap.size w w' := by
  obtain ⟨i0, hi, hz0, hz1, hz2⟩ := info_parts (show (Tryd.prog.info? 34).map (fun i => (i.zero, i.size, i.bytes)) = some (some (.agg #[.string ⟨#[]⟩, .string ⟨#[]⟩, .bool false, .int .i64 0, .int .i64 0, .int .i64 0]), 6, 64) by kernel_rfl)
  obtain ⟨a, c, rfl, hl, h⟩ := h
  by_cases h0 : l = []
  · subst h0
    cases a with
    | none =>
      refine (Tryd.slices_Clone_nil _ _ _).mono ?_
      rintro e w' ⟨rfl, rfl⟩
      exact ⟨_, rfl, World.ownsRow_nil _ _ _ _, Below.refl _ _⟩
    | some a =>
      refine (clone_zero _ _ _).mono ?_
      rintro e w' ⟨rfl, rfl⟩
      exact ⟨_, rfl, World.ownsRow_made w #[] 0 (Nat.le_refl _) (by simp [maxLen]) (by simp), (Below.refl _ _).alloc (Nat.le_refl _) _⟩
  · have hp : 0 < l.length := List.length_pos_iff.2 h0
    obtain ⟨b, off, rfl, hc⟩ := h hp
    refine (Tryd.slices_Clone i0 _ 6 64 hi hz0 hz1 hz2 (by simp [Value.cells]) (by omega) sizeOf_rule b off l.length c (flat l) w (flat_length l) (by simp only [maxLen]; omega) (by omega) ?_ (flat_one l)).mono ?_
    · intro j u hj
      have hlt : j < l.length * 6 := by rw [← flat_length]; exact (List.getElem?_eq_some_iff.1 hj).1
      have hi' : j / 6 < l.length := by omega
      have := flat_get l (j / 6) l[j / 6] (List.getElem?_eq_getElem hi') (j % 6) (by omega)
      rw [show j / 6 * 6 + j % 6 = j from by omega, hj] at this
      have := hc (j / 6) l[j / 6] (List.getElem?_eq_getElem hi') (j % 6) u this.symm
      rw [show off + j / 6 * 6 + j % 6 = off + j from by omega] at this
      exact this
    · rintro e w' ⟨v', rfl, ho, _, hb⟩
      exact ⟨v', rfl, ho, hb⟩

/-- slices.DeleteFunc over Due's first closure, at a slice of the call's own -/
theorem delete_any (q : RuleV → Bool) (zs : List RuleV) (base B kb : Nat) (v : Value) (w : World) (hz : zs.length ≤ 2199023255552) (hB : B ≤ base)
    (ho : w.ownsRow base 34 6 v zs.length (flat zs))
    (hp : ∀ W r, Below B w W → Calls Tryd.prog 25 #[r.val, .pointer (some ⟨kb, 0, none⟩)] W fun e W' => e = .returned (.bool (!q r)) ∧ Below W.heap.size W W') :
    Calls Tryd.prog 23 #[v, .func (.func 25) #[] #[.pointer (some ⟨kb, 0, none⟩)]] w
      fun e w' => ∃ v', e = .returned v' ∧ RulesIn w' v' (zs.filter q) ∧ Below B w w' := by
  rcases ho.2 with ⟨rfl, h0⟩ | ⟨g, cap, cur, rfl, hb, hg, hn, hm, hcs, ht⟩
  · obtain rfl := List.eq_nil_of_length_eq_zero h0
    refine (delete_empty _ _ _ _).mono ?_
    rintro e w' ⟨rfl, rfl⟩
    exact ⟨_, rfl, ⟨none, 0, rfl, by simp, fun h => by simp at h⟩, Below.refl _ _⟩
  · refine (del_walk q zs B g cap kb cur w hn (by simp only [maxLen] at hm; omega) (by omega) hg hcs (fun a r ha c hc => ?_) hp).mono ?_
    · have hi := (List.getElem?_eq_some_iff.1 ha).1
      rw [← flat_get zs a r ha c hc, ← ht, List.getElem?_take, if_pos (by omega), Array.getElem?_toList]
    · rintro e w' ⟨rfl, cur', hg', hs', hr', hb'⟩
      refine ⟨_, rfl, ⟨some ⟨g, 0, none⟩, cap, rfl, Nat.le_trans (List.length_filter_le _ _) hz, fun _ => ⟨g, 0, rfl, fun i r hi j u hu => ?_⟩⟩, hb'⟩
      have hj : j < 6 := by have := (List.getElem?_eq_some_iff.1 hu).1; simpa [RuleV.cells] using this
      rw [Nat.zero_add, cell_of_heap hg', hr' i r hi j hj, hu]

/-- slices.ContainsFunc at any slice of rules -/
theorem contains_any {α : Type} [Inhabited α] (of : α → RuleV) (v : Value) (l : List α) (p : α → Bool) (g : Nat) (lb : Array Value) (w : World) (h : RulesIn w v (l.map of))
    (eg : ∀ args w, (callFunc g args).run Tryd.prog w = .ok (.enter g args) w)
    (hp : ∀ W r, Below w.heap.size w W → Calls Tryd.prog g (#[(of r).val] ++ lb) W fun e W' => e = .returned (.bool (p r)) ∧ Below w.heap.size w W') :
    Calls Tryd.prog 27 #[v, .func (.func g) #[] lb] w fun e w' => e = .returned (.bool (l.any p)) ∧ Below w.heap.size w w' := by
  obtain ⟨a, c, rfl, hl, h⟩ := h
  rw [List.length_map] at *
  by_cases h0 : l = []
  · subst h0
    refine (contains_empty _ _ _ _).mono ?_
    rintro e w' ⟨rfl, rfl⟩
    exact ⟨rfl, Below.refl _ _⟩
  · have hp0 : 0 < l.length := List.length_pos_iff.2 h0
    obtain ⟨b, off, rfl, hc⟩ := h hp0
    have hb : b < w.heap.size := by
      have := hc 0 (of l[0]) (by simp [hp0]) 0 _ rfl
      exact World.block_lt_of_cell? w _ this
    refine (Tryd.slices_ContainsFunc 6 isAgg_rule sizeOf_rule (fun x => (of x).cells) (fun _ => rfl) p g lb eg b off l.length c l w (fun W x hW => hp W x hW) (Nat.le_refl _) (by omega) hb ?_).mono ?_
    · intro j hj i v hv
      exact hc j (of l[j]!) (by simp [hj, getElem!_pos]) i v hv
    · rintro e w' ⟨rfl, hb'⟩
      rw [List.take_of_length_le (Nat.le_refl _)]
      exact ⟨rfl, hb'⟩

end Go.Proofs.YtnnfcbebjbfkoaaDoor

/-
  strconv.FormatInt at base 16, meta.Number.
-/
namespace Go.Proofs.YtnnfcbebjbfkoaaDoor
open Go.RowKit

/-- the table that TrailingZeros64 reads -/
def db64 : List Int := [0, 1, 56, 2, 57, 49, 28, 3, 61, 58, 42, 50, 38, 29, 17, 4, 62, 47, 59, 36, 45, 43, 51, 22, 53, 39, 33, 30, 24, 18, 12, 5, 63, 55, 48, 27, 60, 41, 37, 16, 46, 35, 44, 21, 52, 32, 23, 11, 54, 26, 40, 15, 34, 20, 31, 10, 25, 14, 19, 9, 13, 8, 7, 6]

set_option maxHeartbeats 400000 in
theorem tz16 (w : World) (h : w.cell? ⟨5, 15, none⟩ = some (.int .u8 4)) :
    Calls Tryd.prog 79 #[.int .u64 16] w fun e w' => e = .returned (.int .i64 4) ∧ w' = w := by
  have he : IntKind.u64.wrap (bits BinOp.and IntKind.u64 16 (IntKind.u64.wrap (-16)) * 285870213051353865) / 288230376151711744 = 15 := by kernel_rfl
  go_enter Tryd.func79, Tryd.ntmps79
  go_wp2
  go_ret
  exact ⟨rfl, rfl⟩

/-- n's digits to the base 16 -/
def hexD (d : Nat) : UInt8 := if d < 10 then (48 + d).toUInt8 else (87 + d).toUInt8
def hexL (n : Nat) : List UInt8 := if _h : n < 16 then [hexD n] else hexL (n / 16) ++ [hexD (n % 16)]
termination_by n
decreasing_by omega

theorem hexL_small {n : Nat} (h : n < 16) : hexL n = [hexD n] := by rw [hexL, dif_pos h]
theorem hexL_big {n : Nat} (h : 16 ≤ n) : hexL n = hexL (n / 16) ++ [hexD (n % 16)] := by rw [hexL, dif_neg (by omega)]

/-- the row of 65 bytes holds ds at its end -/
def EndIs (cu : Array Value) (ds : List UInt8) : Prop := cu.size = 65 ∧ ds.length ≤ 65 ∧ ∀ j (h : j < ds.length), cu[65 - ds.length + j]? = some (.int .u8 (ds[j].toNat : Int))
theorem EndIs.push {cu : Array Value} {ds : List UInt8} (h : EndIs cu ds) (d : UInt8) (hl : ds.length < 65) : EndIs (cu.setIfInBounds (64 - ds.length) (.int .u8 (d.toNat : Int))) (d :: ds) := by
  obtain ⟨h1, h2, h3⟩ := h
  refine ⟨by simp [h1], by simp; omega, fun j hj => ?_⟩
  simp only [List.length_cons] at *
  cases j with
  | zero =>
    rw [show 65 - (ds.length + 1) + 0 = 64 - ds.length from by omega, Array.getElem?_setIfInBounds_self_of_lt (by omega)]
    rfl
  | succ j =>
    have hj' : j < ds.length := by simp at hj; omega
    have := h3 j hj'
    rw [Array.getElem?_setIfInBounds_ne (by omega), show 65 - (ds.length + 1) + (j + 1) = 65 - ds.length + j from by omega, this]
    rfl

theorem pow16 (w : World) : Calls Tryd.prog 78 #[.int .i64 16] w fun e w' => e = .returned (.bool true) ∧ w' = w := by
  have hp : bits BinOp.and IntKind.i64 16 15 = 0 := by kernel_rfl
  go_enter Tryd.func78, Tryd.ntmps78
  go_wp2
  go_ret
  exact ⟨rfl, rfl⟩

theorem and15 (u : Nat) (h : u < 18446744073709551616) : bits .and .u64 (u : Int) 15 = ((u % 16 : Nat) : Int) := by
  have h0 : (0 : Int) ≤ (u : Int) := by omega
  have h1 : (u : Int) < 18446744073709551616 := by omega
  have : bits .and .u64 (u : Int) 15 = (u : Int) % 16 := by
    rw [u64_and _ _ h0 h1 (by omega) (by omega)]
    have : (u : Int).toNat &&& (15 : Int).toNat = u % 16 := by
      simpa using Nat.and_two_pow_sub_one_eq_mod u 4
    rw [this]; omega
  rw [this]; omega

theorem dig_get : ∀ (x : Nat) (_ : x < 16) (h : x < (⟨#[48, 49, 50, 51, 52, 53, 54, 55, 56, 57, 97, 98, 99, 100, 101, 102, 103, 104, 105, 106, 107, 108, 109, 110, 111, 112, 113, 114, 115, 116, 117, 118, 119, 120, 121, 122]⟩ : ByteArray).size), (⟨#[48, 49, 50, 51, 52, 53, 54, 55, 56, 57, 97, 98, 99, 100, 101, 102, 103, 104, 105, 106, 107, 108, 109, 110, 111, 112, 113, 114, 115, 116, 117, 118, 119, 120, 121, 122]⟩ : ByteArray)[x] = hexD x
  | 0, _, _ => rfl
  | 1, _, _ => rfl
  | 2, _, _ => rfl
  | 3, _, _ => rfl
  | 4, _, _ => rfl
  | 5, _, _ => rfl
  | 6, _, _ => rfl
  | 7, _, _ => rfl
  | 8, _, _ => rfl
  | 9, _, _ => rfl
  | 10, _, _ => rfl
  | 11, _, _ => rfl
  | 12, _, _ => rfl
  | 13, _, _ => rfl
  | 14, _, _ => rfl
  | 15, _, _ => rfl
  | _ + 16, h, _ => absurd h (by omega)

set_option maxHeartbeats 2000000 in
set_option maxRecDepth 100000 in
theorem formatBits16 (n : Nat) (hn : n < 18446744073709551616) (w : World) (h : w.cell? ⟨5, 15, none⟩ = some (.int .u8 4)) :
    Calls Tryd.prog 67 #[.slice none 0 0, .int .u64 n, .int .i64 16, .bool false, .bool false] w fun e w' => e = .returned (.tuple #[.slice none 0 0, .string ⟨(hexL n).toArray⟩]) ∧ Below w.heap.size w w' := by
  have HT := Lib.hid h
  clear h
  go_enter Tryd.func67, Tryd.ntmps67
  go_wp2_with (first | (go_at_call 79; refine (tz16 _ (cell_past _ HT.out)).mono ?_; rintro e w' ⟨rfl, rfl⟩) | (go_at_call 78; refine (pow16 _).mono ?_; rintro e w' ⟨rfl, rfl⟩))
  go_loopg [1, 13] n (fun gg s1 s13 wr => ∃ (u k : Nat) (ds : List UInt8) (cu : Array Value), s1 = .int .u64 u ∧ s13 = .int .i64 k ∧ u ≤ gg ∧ k + ds.length = 65 ∧ ds.length ≤ 15 ∧ u < 18446744073709551616 ∧ Hid (hexL n = hexL u ++ ds) ∧ Hid (u * 16 ^ ds.length ≤ n) ∧ Hid (wr.heap[w.heap.size]? = some (.cells cu 126 (0, 0))) ∧ Hid (EndIs cu ds) ∧ Hid (Below w.heap.size w wr))
  case atStart => exact ⟨n, 65, [], Tryd.zeroCells126, rfl, rfl, Nat.le_refl _, rfl, by simp, hn, by show _ = _; simp, by show _ ≤ _; simp, heap_alloc_new w _, ⟨by kernel_rfl, by simp, fun j hj => by simp at hj⟩, below_alloc (Below.refl _ _) (Nat.le_refl _) _⟩
  case round =>
    obtain ⟨u, k, ds, cu, rfl, rfl, hgg, hk, hd, hu, HX, HM, GH, EI, BW⟩ := hrel
    by_cases hlt : 16 ≤ u
    · have hlt' : (16 : Int) ≤ (u : Int) := by omega
      have ha := and15 u hu
      have hkp : 50 ≤ k := by omega
      have hsz := (EI.out).1
      obtain ⟨old, hold⟩ : ∃ old, cu[k - 1]? = some old := ⟨_, Array.getElem?_eq_getElem (by omega)⟩
      have hc : wr.cell? ⟨w.heap.size, k - 1, none⟩ = some old := (cell_of_heap GH.out).trans hold
      have hf : wr.frozen? ⟨w.heap.size, k - 1, none⟩ = false := free_of_heap GH.out
      have hwr : w.heap.size < wr.heap.size := (Array.getElem?_eq_some_iff.1 GH.out).1
      clear hold hsz
      go_wp2
      go_roundg (u / 16)
      case measure => omega
      case rel =>
        refine ⟨u / 16, k - 1, hexD (u % 16) :: ds, cu.setIfInBounds (k - 1) (.int .u8 ((hexD (u % 16)).toNat : Int)), by go_num, by go_num, Nat.le_refl _, by simp; omega, ?_, by omega, ?_, ?_, ?_, ?_, BW.out.setCell (by simp) _⟩
        · rw [List.length_cons]
          have h1 := HM.out
          rcases Nat.lt_or_ge ds.length 15 with h2 | h2
          · omega
          · have h3 : ds.length = 15 := by omega
            rw [h3] at h1
            omega
        · show _ = _
          rw [HX.out, hexL_big hlt]; simp
        · show _ ≤ _
          have h1 := HM.out
          rw [List.length_cons, Nat.pow_succ]
          have h2 : u / 16 * 16 ≤ u := Nat.div_mul_le_self u 16
          calc u / 16 * (16 ^ ds.length * 16) = (u / 16 * 16) * 16 ^ ds.length := by rw [Nat.mul_comm (16 ^ ds.length) 16, Nat.mul_assoc]
            _ ≤ u * 16 ^ ds.length := Nat.mul_le_mul_right _ h2
            _ ≤ n := h1
        · rw [dig_get _ (by omega)]
          exact Lib.hid (heap_set (x := k - 1) GH.out _)
        · show EndIs _ _
          have := EI.out.push (hexD (u % 16)) (by omega)
          rw [show 64 - ds.length = k - 1 from by omega] at this
          exact this
    · have hlt' : (u : Int) < 16 := by omega
      have hsz := (EI.out).1
      have hkp : 50 ≤ k := by omega
      obtain ⟨old, hold⟩ : ∃ old, cu[k - 1]? = some old := ⟨_, Array.getElem?_eq_getElem (by omega)⟩
      have hc : wr.cell? ⟨w.heap.size, k - 1, none⟩ = some old := (cell_of_heap GH.out).trans hold
      have hf : wr.frozen? ⟨w.heap.size, k - 1, none⟩ = false := free_of_heap GH.out
      have hwr : w.heap.size < wr.heap.size := (Array.getElem?_eq_some_iff.1 GH.out).1
      have HE2 : EndIs (cu.setIfInBounds (k - 1) (.int .u8 ((hexD u).toNat : Int))) (hexD u :: ds) := by
        have := EI.out.push (hexD u) (by omega)
        rw [show 64 - ds.length = k - 1 from by omega] at this
        exact this
      have GH2 := heap_set GH.out (g := w.heap.size) (x := k - 1) (.int .u8 ((hexD u).toNat : Int))
      have hcv := run_convert_bytes_back (P := Tryd.prog) (wr.setCell ⟨w.heap.size, k - 1, none⟩ (.int .u8 ((hexD u).toNat : Int))) 95 9 5 ⟨w.heap.size, k - 1, none⟩ (65 - (k - 1)) (hexD u :: ds) Tryd.underlying95 Tryd.underlying5 Tryd.underlying9 (fun j hj => by
        rw [Addr.add_lit, cell_of_heap GH2]
        have := HE2.2.2 j hj
        rw [show 65 - (hexD u :: ds).length = k - 1 from by simp; omega] at this
        exact this)
      rw [show (hexD u :: ds).length = 65 - (k - 1) from by simp; omega, ← dig_get u (by omega) (by show u < 36; omega)] at hcv
      have HX2 : Hid (hexL n = hexD u :: ds) := by
        show _ = _
        rw [HX.out, hexL_small (by omega)]; rfl
      have hal : Tryd.prog.arrayLen 126 = 65 := by kernel_rfl
      have hsl : ∀ W, (Instr.sliceAt 126 (.pointer (some ⟨w.heap.size, 0, none⟩)) (some (.int .i64 ((k : Int) - 1))) none none).run Tryd.prog W = .ok (.slice (some ⟨w.heap.size, k - 1, none⟩) (65 - (k - 1)) (65 - (k - 1))) W := fun W => by
        rw [run_sliceAt_array_l W 126 ⟨w.heap.size, 0, none⟩ (by simp [Program.arrayLen, Program.elem, Tryd.underlying126]) .i64 ((k : Int) - 1) (by omega) (by rw [hal]; omega)]
        go_simp
        omega
      clear hold hsz HE2 GH2 HX hal
      go_wp2
      go_ret2
      refine ⟨?_, BW.out.setCell (by simp) _⟩
      rw [HX2.out, dig_get u (by omega)]
      rfl

end Go.Proofs.YtnnfcbebjbfkoaaDoor

/-
  strconv.FormatInt at base 16, meta.Number.
-/
namespace Go.Proofs.YtnnfcbebjbfkoaaDoor
open Go.RowKit

set_option maxHeartbeats 400000 in
theorem iFormatInt16 (n : Nat) (hn : n ≤ 9223372036854775807) (w : World) (h : w.cell? ⟨5, 15, none⟩ = some (.int .u8 4)) :
    Calls Tryd.prog 52 #[.int .i64 n, .int .i64 16] w fun e w' => e = .returned (.string ⟨(hexL n).toArray⟩) ∧ Below w.heap.size w w' := by
  have HF := Lib.hid (formatBits16 n (by omega))
  have HT := Lib.hid h
  clear h
  go_enter Tryd.func52, Tryd.ntmps52
  go_wp2_with fail
  refine (HF.out _ HT.out).mono ?_
  rintro e w' ⟨rfl, hb⟩
  go_wp2
  go_ret
  exact ⟨rfl, hb⟩

set_option maxHeartbeats 400000 in
theorem formatInt16 (n : Nat) (hn : n ≤ 9223372036854775807) (w : World) (h : w.cell? ⟨5, 15, none⟩ = some (.int .u8 4)) :
    Calls Tryd.prog 43 #[.int .i64 n, .int .i64 16] w fun e w' => e = .returned (.string ⟨(hexL n).toArray⟩) ∧ Below w.heap.size w w' := by
  have HT := Lib.hid h
  clear h
  go_enter Tryd.func43, Tryd.ntmps43
  go_wp2_with fail
  refine (iFormatInt16 n hn _ HT.out).mono ?_
  rintro e w' ⟨rfl, hb⟩
  go_wp2
  go_ret
  exact ⟨rfl, hb⟩

theorem hexL_length (n : Nat) : ∀ k, n < 16 ^ (k + 1) → (hexL n).length ≤ k + 1 := by
  induction n using Nat.strongRecOn with
  | _ n ih =>
    intro k hk
    by_cases h : n < 16
    · rw [hexL_small h]; simp
    · rw [hexL_big (by omega)]
      cases k with
      | zero => simp at hk; omega
      | succ k =>
        have := ih (n / 16) (by omega) k (by rw [Nat.pow_succ] at hk; omega)
        simp; omega
theorem hexL_pos (n : Nat) : 0 < (hexL n).length := by
  by_cases h : n < 16
  · rw [hexL_small h]; simp
  · rw [hexL_big (by omega)]; simp

/-- what meta.Number tells: sixteen sixteenths, or nothing -/
def numText (n : Int) : List UInt8 := if 0 ≤ n ∧ n ≤ 9007199254740991 then List.replicate (16 - (hexL n.toNat).length) 48 ++ hexL n.toNat else []

theorem repeatL_one (x : UInt8) (c : Nat) : Lib.repeatL [x] c = List.replicate c x := by
  induction c with
  | zero => rfl
  | succ c ih => simp [Lib.repeatL, List.replicate_succ, ih]

set_option maxHeartbeats 400000 in
theorem number_any (n : Int) (h1 : IntOK n) (w : World) (h : w.cell? ⟨5, 15, none⟩ = some (.int .u8 4)) :
    Calls Tryd.prog 32 #[.int .i64 n] w fun e w' => e = .returned (.string ⟨(numText n).toArray⟩) ∧ Below w.heap.size w w' := by
  by_cases hn : 0 ≤ n ∧ n ≤ 9007199254740991
  · have HN : Hid (numText n = List.replicate (16 - (hexL n.toNat).length) 48 ++ hexL n.toNat) := by show _ = _; unfold numText; rw [if_pos hn]
    obtain ⟨hn1, hn2⟩ := hn
    obtain ⟨m, rfl⟩ := Int.eq_ofNat_of_zero_le hn1
    simp only [Int.toNat_natCast] at HN
    have hl := hexL_length m 13 (by omega)
    have hl0 := hexL_pos m
    have HF := Lib.hid (formatInt16 m (by omega))
    have HT := Lib.hid h
    clear h h1
    generalize hL : hexL m = L at *
    clear hL
    go_enter Tryd.func32, Tryd.ntmps32
    go_wp2_with fail
    refine (HF.out _ HT.out).mono ?_
    rintro e w1 ⟨rfl, hb1⟩
    go_wp2_with fail
    rw [show (16 - (L.length : Int)) = ((16 - L.length : Nat) : Int) from by omega]
    refine (Tryd.strings_Repeat ⟨#[48]⟩ (16 - L.length) _ (by omega) (by show 1 * _ ≤ _; omega)).mono ?_
    rintro e w2 ⟨rfl, hb2⟩
    have hr : Lib.repeatL (ByteArray.mk #[48]).data.toList (16 - L.length) = List.replicate (16 - L.length) 48 := repeatL_one 48 _
    rw [hr]
    have HR := Lib.hid hr
    clear hr
    generalize hR : List.replicate (16 - L.length) (48 : UInt8) = R at *
    have hRl : R.length ≤ 16 := by rw [← hR]; simp
    clear hR
    go_wp2
    go_ret
    refine ⟨?_, hb1.trans (hb2.mono hb1.size)⟩
    rw [HN.out]
    have : (⟨R.toArray⟩ : ByteArray) ++ ⟨L.toArray⟩ = ⟨(R ++ L).toArray⟩ := by
      apply ByteArray.ext
      simp
    rw [← this]; rfl
  · have HN : Hid (numText n = []) := by show _ = _; unfold numText; rw [if_neg hn]
    unfold IntOK at h1
    obtain ⟨h1a, h1b⟩ := h1
    have HT := Lib.hid h
    clear h
    by_cases hn0 : n < 0
    · clear hn
      go_enter Tryd.func32, Tryd.ntmps32
      go_wp2
      go_ret
      exact ⟨by rw [HN.out]; rfl, Below.refl _ _⟩
    · have hn1 : 9007199254740991 < n := by omega
      clear hn
      go_enter Tryd.func32, Tryd.ntmps32
      go_wp2
      go_ret
      exact ⟨by rw [HN.out]; rfl, Below.refl _ _⟩

end Go.Proofs.YtnnfcbebjbfkoaaDoor


/-
  What the listed package-level variables hold, as far as the walks want it; kept.
-/
namespace Go.Proofs.YtnnfcbebjbfkoaaDoor
open Go.RowKit

/-- what the listed variables hold, as far as the walks want it -/
structure Glob (w : World) : Prop where
  size : 6 ≤ w.heap.size
  tz : w.cell? ⟨5, 15, none⟩ = some (.int .u8 4)
  pow : Lib.TabIs Tryd.prog w "internal/strconv.uint64pow10" .u64 Lib.pow10Tab
  esyn : ∃ te pe, w.cell? ⟨2, 0, none⟩ = some (.iface te pe)
  eran : ∃ te pe, w.cell? ⟨3, 0, none⟩ = some (.iface te pe)

theorem Glob.later {w w' : World} (h : Glob w) (hb : Below w.heap.size w w') : Glob w' :=
  ⟨Nat.le_trans h.size hb.size, cell_later hb h.tz, var?_below (g := 0) hb (by kernel_rfl) (by have := h.size; omega) h.pow,
    by obtain ⟨a, b, c⟩ := h.esyn; exact ⟨a, b, cell_later hb c⟩, by obtain ⟨a, b, c⟩ := h.eran; exact ⟨a, b, cell_later hb c⟩⟩

end Go.Proofs.YtnnfcbebjbfkoaaDoor

/-
  Atoi, Itoa in this seat's own form.
-/
namespace Go.Proofs.YtnnfcbebjbfkoaaDoor
open Go.RowKit

theorem below_bytesWorld (w : World) (e : TypeId) (s : ByteArray) : Below w.heap.size w (Lib.bytesWorld w e s) := by
  refine ⟨?_, ?_, ?_, ?_, fun k hk => ?_⟩
  · unfold Lib.bytesWorld World.freeze; split <;> rfl
  · unfold Lib.bytesWorld World.freeze; split <;> rfl
  · unfold Lib.bytesWorld World.freeze; split <;> rfl
  · unfold Lib.bytesWorld World.freeze; split <;> simp
  · unfold Lib.bytesWorld World.freeze
    split
    · exact Below.heap_alloc _ _ _ hk
    · simp only [Array.getElem?_modify]
      rw [if_neg (by omega)]
      exact Below.heap_alloc w.drew _ _ hk

theorem below_grown' (w : World) (k : Nat) (os : Array Obj) : Below w.heap.size w (Sort.grow (w.drewN k) os) := by
  refine ⟨rfl, rfl, rfl, ?_, fun i hi => ?_⟩
  · show w.heap.size ≤ (w.heap ++ os).size
    simp
  · show (w.heap ++ os)[i]? = _
    rw [Array.getElem?_append_left hi]

theorem itoa_any (n : Int) (h : IntOK n) (w : World) (hg : Glob w) : Calls Tryd.prog 22 #[.int .i64 n] w fun e w' => e = .returned (.string ⟨(Lib.itoa n).toArray⟩) ∧ Below w.heap.size w w' := by
  refine (Tryd.strconv_Itoa n h.1 h.2 w hg.pow).mono ?_
  rintro e w' ⟨rfl, k, os, rfl⟩
  exact ⟨rfl, below_grown' _ _ _⟩

theorem atoi_ok (s : ByteArray) (v : Int) (hs : s.size ≤ 1000) (h : Lib.atoiAll s.data.toList = .ok v) (w : World) : Calls Tryd.prog 63 #[.string s] w fun e w' => e = .returned (.tuple #[.int .i64 v, .nilIface]) ∧ Below w.heap.size w w' := by
  refine (Tryd.strconv_Atoi_ok s (by omega) v h w).mono ?_
  rintro e w' ⟨rfl, rfl | ⟨t, rfl⟩⟩
  · exact ⟨rfl, Below.refl _ _⟩
  · refine ⟨rfl, below_bytesWorld _ _ _⟩

/-- .. at what is no number: an error -/
def AtoiBad (w : World) (e : Ending) (w' : World) : Prop := (∃ v N, e = .returned (.tuple #[.int .i64 v, .iface 136 (.pointer (some ⟨N, 0, none⟩))])) ∧ Below w.heap.size w w'
theorem atoi_bad (s : ByteArray) (hs : s.size ≤ 1000) (h : ∀ v, Lib.atoiAll s.data.toList ≠ .ok v) (w : World) (hg : Glob w) : Calls Tryd.prog 63 #[.string s] w (AtoiBad w) := by
  rcases hc : Lib.atoiAll s.data.toList with v | _ | _
  · exact absurd hc (h v)
  · obtain ⟨te, pe, hv⟩ := hg.esyn
    refine (Tryd.strconv_Atoi_syntax s (by omega) hc _ w hv (.inr ⟨te, pe, rfl⟩)).mono ?_
    rintro e w' ⟨N, rfl, _, _, hb⟩
    exact ⟨⟨_, N, rfl⟩, hb⟩
  · obtain ⟨te, pe, hv⟩ := hg.eran
    refine (Tryd.strconv_Atoi_range s (by omega) hc _ w hv (.inr ⟨te, pe, rfl⟩)).mono ?_
    rintro e w' ⟨N, rfl, _, _, hb⟩
    exact ⟨⟨_, N, rfl⟩, hb⟩

end Go.Proofs.YtnnfcbebjbfkoaaDoor

/-
  PLAIN: decimal numerals: what digits tell; the numeral of what they tell is they.
-/
namespace Go.Proofs.YtnnfcbebjbfkoaaDoor
open Go.Lib

/-- what digits tell, behind what others told -/
def digs : Nat → List UInt8 → Option Nat
  | acc, [] => some acc
  | acc, c :: r => if 48 ≤ c.toNat ∧ c.toNat ≤ 57 then digs (10 * acc + (c.toNat - 48)) r else none
/-- a number of at most sixteen digits, without a nought ahead; below 0: it is none -/
def valueL (l : List UInt8) : Int :=
  if l = [] ∨ 16 < l.length ∨ (1 < l.length ∧ l.head? = some 48) then -1 else match digs 0 l with | none => -1 | some n => n

theorem digs_append : ∀ (l r : List UInt8) (acc : Nat), digs acc (l ++ r) = (digs acc l).bind fun a => digs a r
  | [], r, acc => by simp [digs]
  | c :: l, r, acc => by
    simp only [List.cons_append, digs]
    split
    · exact digs_append l r _
    · rfl
theorem digs_snoc {l : List UInt8} {c : UInt8} {acc u : Nat} (h : digs acc (l ++ [c]) = some u) : ∃ v, digs acc l = some v ∧ 48 ≤ c.toNat ∧ c.toNat ≤ 57 ∧ u = 10 * v + (c.toNat - 48) := by
  rw [digs_append, Option.bind_eq_some_iff] at h
  obtain ⟨v, h1, h2⟩ := h
  simp only [digs] at h2
  split at h2
  · rename_i hc
    exact ⟨v, h1, hc.1, hc.2, by simpa using h2.symm⟩
  · cases h2
theorem digs_ge : ∀ (l : List UInt8) (acc u : Nat), digs acc l = some u → acc ≤ u
  | [], acc, u, h => by simp [digs] at h; omega
  | c :: l, acc, u, h => by
    simp only [digs] at h
    split at h
    · have := digs_ge l _ u h; omega
    · cases h
theorem ofNat_digit {c : UInt8} (h1 : 48 ≤ c.toNat) : UInt8.ofNat (48 + (c.toNat - 48)) = c := by
  rw [show 48 + (c.toNat - 48) = c.toNat by omega]
  exact UInt8.ofNat_toNat

theorem snoc_of {α : Type} {l : List α} (h : l ≠ []) : ∃ a x, l = a ++ [x] := ⟨l.dropLast, l.getLast h, (List.dropLast_concat_getLast h).symm⟩

/-- digits without a nought ahead are the numeral of what they tell -/
theorem decDigits_digs : ∀ (k : Nat) (l : List UInt8) (u : Nat), l.length = k → l ≠ [] → digs 0 l = some u → (l.length = 1 ∨ l.head? ≠ some 48) → decDigits u = l
  | 0, l, _, hk, hl, _, _ => absurd (List.eq_nil_of_length_eq_zero hk) hl
  | k + 1, l, u, hk, hl, h, hh => by
    obtain ⟨a, c, rfl⟩ := snoc_of hl
    obtain ⟨v, h1, h2, h3, rfl⟩ := digs_snoc h
    by_cases ha : a = []
    · subst ha
      simp [digs] at h1
      subst h1
      rw [decDigits, dif_pos (by omega)]
      simp [ofNat_digit h2]
    · have hh' : a.head? ≠ some 48 := by
        rcases hh with hh | hh
        · simp at hh; exact absurd hh ha
        · rw [List.head?_append] at hh
          cases hx : a.head? with
          | none => simp
          | some y => rw [hx] at hh; simpa using hh
      have hv : 1 ≤ v := by
        cases a with
        | nil => exact absurd rfl ha
        | cons d a =>
          simp only [digs] at h1
          split at h1
          · rename_i hd
            have := digs_ge _ _ _ h1
            have hne : d.toNat ≠ 48 := fun e => hh' (by simp; exact UInt8.toNat_inj.1 e)
            omega
          · cases h1
      have ih := decDigits_digs k a v (by simp at hk; omega) ha h1 (.inr hh')
      rw [decDigits, dif_neg (by omega), show (10 * v + (c.toNat - 48)) / 10 = v by omega, show (10 * v + (c.toNat - 48)) % 10 = c.toNat - 48 by omega, ih, ofNat_digit h2]

theorem toNat_digit {d : Nat} (h : d < 10) : (UInt8.ofNat (48 + d)).toNat = 48 + d := by
  rw [UInt8.toNat_ofNat']; omega
theorem digs_decDigits (u : Nat) : digs 0 (decDigits u) = some u := by
  induction u using Nat.strongRecOn with
  | _ u ih =>
    rw [decDigits]
    by_cases h : u < 10
    · rw [dif_pos h]
      simp only [digs, toNat_digit h]
      rw [if_pos (by omega)]; simp
    · rw [dif_neg h, digs_append, ih (u / 10) (by omega)]
      simp only [Option.bind_some, digs, toNat_digit (show u % 10 < 10 by omega)]
      rw [if_pos (by omega)]
      congr 1; omega
theorem decDigits_ne (u : Nat) : decDigits u ≠ [] := by
  rw [decDigits]; split <;> simp
theorem decDigits_head (u : Nat) : (decDigits u).length = 1 ∨ (decDigits u).head? ≠ some 48 := by
  induction u using Nat.strongRecOn with
  | _ u ih =>
    rw [decDigits]
    by_cases h : u < 10
    · rw [dif_pos h]; exact .inl rfl
    · rw [dif_neg h]
      right
      rcases ih (u / 10) (by omega) with h1 | h1
      · by_cases h2 : u / 10 < 10
        · rw [decDigits, dif_pos h2]
          rw [List.singleton_append, List.head?_cons]
          intro e
          have := congrArg UInt8.toNat (Option.some.inj e)
          rw [toNat_digit h2] at this
          have h48 : (48 : UInt8).toNat = 48 := rfl
          omega
        · exfalso
          rw [decDigits, dif_neg h2] at h1
          have := decDigits_ne (u / 10 / 10)
          simp at h1
          exact this h1
      · rw [List.head?_append]
        cases hx : (decDigits (u / 10)).head? with
        | none => exact absurd (List.head?_eq_none_iff.1 hx) (decDigits_ne _)
        | some y => rw [hx] at h1; simpa using h1

theorem parse_digs : ∀ (l : List UInt8) (acc u : Nat), digs acc l = some u → u < 1844674407370955162 → parseUint10 acc l = .ok u
  | [], acc, u, h, _ => by simp [digs] at h; simp [parseUint10, h]
  | c :: l, acc, u, h, hu => by
    simp only [digs] at h
    simp only [parseUint10]
    split at h
    · rename_i hc
      have := digs_ge _ _ _ h
      rw [if_pos hc, if_neg (by omega), if_neg (by omega), show acc * 10 + (c.toNat - 48) = 10 * acc + (c.toNat - 48) by omega]
      exact parse_digs l _ u h hu
    · cases h

theorem atoi_digs {l : List UInt8} {u : Nat} (hl : l ≠ []) (h : digs 0 l = some u) (hu : u < 1000000) : atoiAll l = .ok (u : Int) := by
  cases l with
  | nil => exact absurd rfl hl
  | cons c r =>
    have hp := parse_digs _ _ _ h (by omega)
    have hc : 48 ≤ c.toNat ∧ c.toNat ≤ 57 := by
      simp only [digs] at h
      split at h
      · assumption
      · cases h
    unfold atoiAll
    simp only
    rw [if_neg (by omega)]
    unfold parseMag
    rw [if_neg (by simp), hp]
    simp only
    rw [if_neg (by omega), if_neg (by omega), if_neg (by omega)]

end Go.Proofs.YtnnfcbebjbfkoaaDoor
