/-
  ELEMENTS (api.Elem) as trees, and how the world holds one.
-/
import Derived.Test.YtnnfcbebjbfkoaaDoorBase
namespace Go.Proofs.YtnnfcbebjbfkoaaDoor
open Go.RowKit

inductive Tree where
  | node (name text : ByteArray) (kids : List Tree)

def Tree.name : Tree → ByteArray | .node n _ _ => n
def Tree.text : Tree → ByteArray | .node _ t _ => t
def Tree.kids : Tree → List Tree | .node _ _ k => k

/-- the longest that is read: every string, every slice takes at most 2^47 bytes -/
def maxRead : Nat := 140737488351232

mutual
/-- three cells hold the tree -/
def TreeIn (w : World) : Tree → Value → Value → Value → Prop
  | .node n t ks, x, y, z => x = .string n ∧ y = .string t ∧ n.size ≤ maxRead ∧ t.size ≤ maxRead ∧ ks.length ≤ 2513169434843 ∧ ∃ a c, z = .slice a ks.length c ∧ KidsIn w ks a 0
def KidsIn (w : World) : List Tree → Option Addr → Nat → Prop
  | [], _, _ => True
  | k :: ks, a, i => (∃ b off x y z, a = some ⟨b, off, none⟩ ∧ w.cell? ⟨b, off + i * 3, none⟩ = some x ∧ w.cell? ⟨b, off + i * 3 + 1, none⟩ = some y ∧ w.cell? ⟨b, off + i * 3 + 2, none⟩ = some z ∧ TreeIn w k x y z) ∧ KidsIn w ks a (i + 1)
end

mutual
theorem TreeIn.later {w w' : World} (hb : Below w.heap.size w w') : ∀ (t : Tree) (x y z : Value), TreeIn w t x y z → TreeIn w' t x y z
  | .node n t ks, x, y, z, h => by
    unfold TreeIn at *
    obtain ⟨h1, h2, h3, h4, h5, a, c, h6, h7⟩ := h
    exact ⟨h1, h2, h3, h4, h5, a, c, h6, KidsIn.later hb ks a 0 h7⟩
theorem KidsIn.later {w w' : World} (hb : Below w.heap.size w w') : ∀ (ks : List Tree) (a : Option Addr) (i : Nat), KidsIn w ks a i → KidsIn w' ks a i
  | [], _, _, _ => by unfold KidsIn; trivial
  | k :: ks, a, i, h => by
    unfold KidsIn at *
    obtain ⟨⟨b, off, x, y, z, h1, h2, h3, h4, h5⟩, h6⟩ := h
    exact ⟨⟨b, off, x, y, z, h1, cell_later hb h2, cell_later hb h3, cell_later hb h4, TreeIn.later hb k x y z h5⟩, KidsIn.later hb ks a (i + 1) h6⟩
end

theorem KidsIn.get {w : World} {a : Option Addr} : ∀ {ks : List Tree} {i : Nat} (_ : KidsIn w ks a i) (j : Nat) (k : Tree), ks[j]? = some k →
    ∃ b off x y z, a = some ⟨b, off, none⟩ ∧ w.cell? ⟨b, off + (i + j) * 3, none⟩ = some x ∧ w.cell? ⟨b, off + (i + j) * 3 + 1, none⟩ = some y ∧ w.cell? ⟨b, off + (i + j) * 3 + 2, none⟩ = some z ∧ TreeIn w k x y z
  | [], _, _, _, _, h => by cases h
  | x :: ks, i, h, 0, k, hk => by
    simp at hk; subst hk
    unfold KidsIn at h
    exact h.1
  | x :: ks, i, h, j + 1, k, hk => by
    unfold KidsIn at h
    have := KidsIn.get h.2 j k (by simpa using hk)
    rw [show i + (j + 1) = i + 1 + j from by omega]
    exact this

/-- what a tree's three cells are -/
theorem TreeIn.cells {w : World} {t : Tree} {x y z : Value} (h : TreeIn w t x y z) :
    x = .string t.name ∧ y = .string t.text ∧ t.name.size ≤ maxRead ∧ t.text.size ≤ maxRead ∧ t.kids.length ≤ 2513169434843 ∧ ∃ a c, z = .slice a t.kids.length c ∧ KidsIn w t.kids a 0 := by
  cases t with
  | node n t ks => unfold TreeIn at h; exact h

/-- a kid: its cells, as the walk reads them -/
theorem KidsIn.kid {w : World} {a : Option Addr} {ks : List Tree} (h : KidsIn w ks a 0) {j : Nat} {k : Tree} (hk : ks[j]? = some k) :
    ∃ b off a' c', a = some ⟨b, off, none⟩ ∧ w.cell? ⟨b, off + j * 3, none⟩ = some (.string k.name) ∧ w.cell? ⟨b, off + j * 3 + 1, none⟩ = some (.string k.text) ∧ w.cell? ⟨b, off + j * 3 + 2, none⟩ = some (.slice a' k.kids.length c') ∧
      k.name.size ≤ maxRead ∧ k.text.size ≤ maxRead ∧ k.kids.length ≤ 2513169434843 ∧ KidsIn w k.kids a' 0 ∧ TreeIn w k (.string k.name) (.string k.text) (.slice a' k.kids.length c') := by
  obtain ⟨b, off, x, y, z, h1, h2, h3, h4, h5⟩ := h.get j k hk
  rw [Nat.zero_add] at h2 h3 h4
  obtain ⟨rfl, rfl, h6, h7, h8, a', c', rfl, h9⟩ := h5.cells
  exact ⟨b, off, a', c', h1, h2, h3, h4, h6, h7, h8, h9, h5⟩

end Go.Proofs.YtnnfcbebjbfkoaaDoor
