/-
  TREES that the call builds: the blocks in which they lie; rows of trees that grow.
-/
import Derived.Test.YtgmgghbocidibaaGreatDoorSm0
import Derived.Test.YtgmgghbocidibaaGreatDoorSm5
import Derived.Deep.AppendLies
namespace Go.Proofs.YtgmgghbocidibaaGreatDoor
open Go.RowKit

mutual
/-- three cells hold the tree, in blocks that meet ok -/
def TreeOn (w : World) (ok : Nat → Prop) : Tree → Value → Value → Value → Prop
  | .node n t ks, x, y, z => x = .string n ∧ y = .string t ∧ n.size ≤ maxRead ∧ t.size ≤ maxRead ∧ ks.length ≤ 2513169434843 ∧ ∃ a c, z = .slice a ks.length c ∧ KidsOn w ok ks a 0
def KidsOn (w : World) (ok : Nat → Prop) : List Tree → Option Addr → Nat → Prop
  | [], _, _ => True
  | k :: ks, a, i => (∃ b off x y z, a = some ⟨b, off, none⟩ ∧ ok b ∧ w.cell? ⟨b, off + i * 3, none⟩ = some x ∧ w.cell? ⟨b, off + i * 3 + 1, none⟩ = some y ∧ w.cell? ⟨b, off + i * 3 + 2, none⟩ = some z ∧ TreeOn w ok k x y z) ∧ KidsOn w ok ks a (i + 1)
end

mutual
theorem TreeOn.kept {w w' : World} {ok ok' : Nat → Prop} (hb : ∀ b, b < w.heap.size → ok b → w'.heap[b]? = w.heap[b]?) (ho : ∀ b, b < w.heap.size → ok b → ok' b) : ∀ (t : Tree) (x y z : Value), TreeOn w ok t x y z → TreeOn w' ok' t x y z
  | .node n t ks, x, y, z, h => by
    unfold TreeOn at *
    obtain ⟨h1, h2, h3, h4, h5, a, c, h6, h7⟩ := h
    exact ⟨h1, h2, h3, h4, h5, a, c, h6, KidsOn.kept hb ho ks a 0 h7⟩
theorem KidsOn.kept {w w' : World} {ok ok' : Nat → Prop} (hb : ∀ b, b < w.heap.size → ok b → w'.heap[b]? = w.heap[b]?) (ho : ∀ b, b < w.heap.size → ok b → ok' b) : ∀ (ks : List Tree) (a : Option Addr) (i : Nat), KidsOn w ok ks a i → KidsOn w' ok' ks a i
  | [], _, _, _ => by unfold KidsOn; trivial
  | k :: ks, a, i, h => by
    unfold KidsOn at *
    obtain ⟨⟨b, off, x, y, z, h1, h1', h2, h3, h4, h5⟩, h6⟩ := h
    have hlt : b < w.heap.size := World.block_lt_of_cell? w _ h2
    have e : ∀ o, w'.cell? ⟨b, o, none⟩ = w.cell? ⟨b, o, none⟩ := fun o => World.cell?_of_block (w := w) (hb b hlt h1')
    exact ⟨⟨b, off, x, y, z, h1, ho b hlt h1', (e _).trans h2, (e _).trans h3, (e _).trans h4, TreeOn.kept hb ho k x y z h5⟩, KidsOn.kept hb ho ks a (i + 1) h6⟩
end

mutual
theorem TreeOn.to_in {w : World} {ok : Nat → Prop} : ∀ (t : Tree) (x y z : Value), TreeOn w ok t x y z → TreeIn w t x y z
  | .node n t ks, x, y, z, h => by
    unfold TreeOn at h
    unfold TreeIn
    obtain ⟨h1, h2, h3, h4, h5, a, c, h6, h7⟩ := h
    exact ⟨h1, h2, h3, h4, h5, a, c, h6, KidsOn.to_in ks a 0 h7⟩
theorem KidsOn.to_in {w : World} {ok : Nat → Prop} : ∀ (ks : List Tree) (a : Option Addr) (i : Nat), KidsOn w ok ks a i → KidsIn w ks a i
  | [], _, _, _ => by unfold KidsIn; trivial
  | k :: ks, a, i, h => by
    unfold KidsOn at h
    unfold KidsIn
    obtain ⟨⟨b, off, x, y, z, h1, _, h2, h3, h4, h5⟩, h6⟩ := h
    exact ⟨⟨b, off, x, y, z, h1, h2, h3, h4, TreeOn.to_in k x y z h5⟩, KidsOn.to_in ks a (i + 1) h6⟩
end

/-- some trees' cells, one behind the other -/
def RowOf (w : World) (ok : Nat → Prop) : List Tree → List Value → Prop
  | [], xs => xs = []
  | k :: ks, xs => ∃ x y z r, xs = x :: y :: z :: r ∧ TreeOn w ok k x y z ∧ RowOf w ok ks r

theorem RowOf.kept {w w' : World} {ok ok' : Nat → Prop} (hb : ∀ b, b < w.heap.size → ok b → w'.heap[b]? = w.heap[b]?) (ho : ∀ b, b < w.heap.size → ok b → ok' b) : ∀ {ks : List Tree} {xs : List Value}, RowOf w ok ks xs → RowOf w' ok' ks xs
  | [], _, h => h
  | _ :: _, _, ⟨x, y, z, r, h1, h2, h3⟩ => ⟨x, y, z, r, h1, TreeOn.kept hb ho _ _ _ _ h2, RowOf.kept hb ho h3⟩
theorem RowOf.append {w : World} {ok : Nat → Prop} : ∀ {ks ks2 : List Tree} {xs ys : List Value}, RowOf w ok ks xs → RowOf w ok ks2 ys → RowOf w ok (ks ++ ks2) (xs ++ ys)
  | [], _, _, _, h, h2 => by subst h; exact h2
  | _ :: _, _, _, _, ⟨x, y, z, r, h1, h2, h3⟩, h4 => ⟨x, y, z, r ++ _, by rw [h1]; rfl, h2, RowOf.append h3 h4⟩
theorem RowOf.length {w : World} {ok : Nat → Prop} : ∀ {ks : List Tree} {xs : List Value}, RowOf w ok ks xs → xs.length = ks.length * 3
  | [], _, h => by subst h; rfl
  | _ :: _, _, ⟨x, y, z, r, h1, h2, h3⟩ => by rw [h1]; simp [RowOf.length h3]; omega
theorem RowOf.one {w : World} {ok : Nat → Prop} {k : Tree} {x y z : Value} (h : TreeOn w ok k x y z) : RowOf w ok [k] [x, y, z] := ⟨x, y, z, [], rfl, h, rfl⟩
theorem TreeOn.oneCell {w : World} {ok : Nat → Prop} {t : Tree} {x y z : Value} (h : TreeOn w ok t x y z) : x.oneCell' = true ∧ y.oneCell' = true ∧ z.oneCell' = true := by
  cases t with
  | node n t ks =>
    unfold TreeOn at h
    obtain ⟨rfl, rfl, _, _, _, a, c, rfl, _⟩ := h
    exact ⟨rfl, rfl, rfl⟩
theorem RowOf.oneCell {w : World} {ok : Nat → Prop} : ∀ {ks : List Tree} {xs : List Value}, RowOf w ok ks xs → ∀ u ∈ xs, u.oneCell' = true
  | [], _, h, u, hu => by subst h; cases hu
  | _ :: _, _, ⟨x, y, z, r, h1, h2, h3⟩, u, hu => by
    subst h1
    obtain ⟨a, b, c⟩ := h2.oneCell
    simp only [List.mem_cons] at hu
    rcases hu with rfl | rfl | rfl | hu
    · exact a
    · exact b
    · exact c
    · exact RowOf.oneCell h3 u hu
/-- a row that lies in a block: the kids of a tree -/
theorem RowOf.kids {w : World} {ok ok' : Nat → Prop} {b off : Nat} (hob : ok' b) (ho : ∀ b, ok b → ok' b) : ∀ {ks : List Tree} {xs : List Value} {i : Nat}, RowOf w ok ks xs → (∀ j u, xs[j]? = some u → w.cell? ⟨b, off + i * 3 + j, none⟩ = some u) → KidsOn w ok' ks (some ⟨b, off, none⟩) i
  | [], _, _, _, _ => by unfold KidsOn; trivial
  | k :: ks, _, i, ⟨x, y, z, r, h1, h2, h3⟩, hc => by
    subst h1
    unfold KidsOn
    refine ⟨⟨b, off, x, y, z, rfl, hob, hc 0 x rfl, hc 1 y rfl, hc 2 z rfl, TreeOn.kept (fun _ _ _ => rfl) (fun b _ => ho b) k x y z h2⟩, RowOf.kids hob ho h3 (fun j u hj => ?_)⟩
    have := hc (j + 3) u (by simpa using hj)
    rw [show off + (i + 1) * 3 + j = off + i * 3 + (j + 3) from by omega]
    exact this

/-- a box kb of an element whose kids grow, at home from base on -/
structure Grow (w : World) (base kb : Nat) (nm : ByteArray) (ks : List Tree) (v : Value) : Prop where
  box : w.heap[kb]? = some (.cells #[.string nm, .string ⟨#[]⟩, v] 24 (0, 0))
  low : kb < base
  row : ∃ xs, ∃ ok : Nat → Prop, w.ownsRow base 24 3 v ks.length xs ∧ RowOf w ok ks xs ∧ ∀ b, ok b → base ≤ b ∧ b < w.heap.size ∧ some b ≠ v.ownBlock

theorem Grow.kb_lt {w : World} {base kb : Nat} {nm : ByteArray} {ks : List Tree} {v : Value} (h : Grow w base kb nm ks v) : kb < w.heap.size := (Array.getElem?_eq_some_iff.1 h.box).1
theorem Grow.own_lt {w : World} {base kb : Nat} {nm : ByteArray} {ks : List Tree} {v : Value} (h : Grow w base kb nm ks v) {g : Nat} (hg : v.ownBlock = some g) : base ≤ g ∧ g < w.heap.size := by
  obtain ⟨xs, ok, ho, _, _⟩ := h.row
  exact ho.lt g hg
/-- nothing of the box, nothing from base on but new blocks and M's -/
theorem Grow.kept {w w' : World} {base kb : Nat} {nm : ByteArray} {ks : List Tree} {v : Value} {M : Nat → Prop} (h : Grow w base kb nm ks v) (hc : Chg w w' M) (hk : ¬ M kb) (hm : ∀ b, base ≤ b → b < w.heap.size → ¬ M b) : Grow w' base kb nm ks v := by
  obtain ⟨xs, ok, ho, hr, hk2⟩ := h.row
  refine ⟨by rw [hc.block kb h.kb_lt hk]; exact h.box, h.low, xs, ok, ?_, RowOf.kept (fun b hb hob => hc.block b hb (hm b (hk2 b hob).1 hb)) (fun _ _ h => h) hr, fun b hb => ⟨(hk2 b hb).1, Nat.lt_of_lt_of_le (hk2 b hb).2.1 hc.size, (hk2 b hb).2.2⟩⟩
  refine ⟨ho.1, ?_⟩
  rcases ho.2 with h1 | ⟨g, cap, cur, hv, hg, hh, r⟩
  · exact .inl h1
  · exact .inr ⟨g, cap, cur, hv, hg, by rw [hc.block g (Array.getElem?_eq_some_iff.1 hh).1 (hm g hg (Array.getElem?_eq_some_iff.1 hh).1)]; exact hh, r⟩
theorem Grow.later {w w' : World} {base kb : Nat} {nm : ByteArray} {ks : List Tree} {v : Value} (h : Grow w base kb nm ks v) (hb : Below w.heap.size w w') : Grow w' base kb nm ks v :=
  h.kept (M := fun _ => False) (Chg.of_below hb) (fun x => x) (fun _ _ _ x => x)

/-- more kids -/
theorem Grow.push {w w1 w' : World} {base kb : Nat} {nm : ByteArray} {ks ks2 : List Tree} {v : Value} {g cap : Nat} {xs news : List Value} {ok ok2 : Nat → Prop} (h : Grow w base kb nm ks v)
    (hr : RowOf w ok ks xs) (hok : ∀ b, ok b → base ≤ b ∧ b < w.heap.size ∧ some b ≠ v.ownBlock)
    (h2 : RowOf w ok2 ks2 news) (hok2 : ∀ b, ok2 b → base ≤ b ∧ b < w.heap.size ∧ some b ≠ v.ownBlock)
    (hown : w1.ownsRow base 24 3 (.slice (some ⟨g, 0, none⟩) (ks.length + ks2.length) cap) (ks.length + ks2.length) (xs ++ news)) (hgr : w.grownBy w1 v.ownBlock) (hat : v.ownBlock = some g ∨ g = w.heap.size) (hlt : g < w1.heap.size)
    (hw : w' = w1.setCell ⟨kb, 2, none⟩ (.slice (some ⟨g, 0, none⟩) (ks.length + ks2.length) cap)) :
    Grow w' base kb nm (ks ++ ks2) (.slice (some ⟨g, 0, none⟩) (ks.length + ks2.length) cap) ∧ Chg w w' (fun b => b = kb ∨ some b = v.ownBlock) := by
  subst hw
  have hkb := h.kb_lt
  have hlow := h.low
  have hkv : some kb ≠ v.ownBlock := fun e => by have := (h.own_lt e.symm).1; omega
  have hbox1 : w1.heap[kb]? = some (.cells #[.string nm, .string ⟨#[]⟩, v] 24 (0, 0)) := by rw [hgr.block kb hkb hkv]; exact h.box
  have hgb : base ≤ g := (hown.lt g rfl).1
  refine ⟨⟨?_, hlow, xs ++ news, fun b => ok b ∨ ok2 b, ?_, ?_, ?_⟩, ?_⟩
  · rw [heap_set hbox1]; simp
  · rw [List.length_append]
    refine ⟨hown.1, ?_⟩
    rcases hown.2 with h1 | ⟨g', cap', cur, hv, hg, hh, r⟩
    · exact .inl h1
    · exact .inr ⟨g', cap', cur, hv, hg, by rw [Below.heap_setCell _ _ _ _ (by simp; omega)]; exact hh, r⟩
  · have hkeep : ∀ b, base ≤ b ∧ b < w.heap.size ∧ some b ≠ v.ownBlock → (w1.setCell ⟨kb, 2, none⟩ (.slice (some ⟨g, 0, none⟩) (ks.length + ks2.length) cap)).heap[b]? = w.heap[b]? := fun b hb => by
      rw [Below.heap_setCell _ _ _ _ (by simp; omega), hgr.block b hb.2.1 hb.2.2]
    exact RowOf.append (RowOf.kept (fun b _ hb => hkeep b (hok b hb)) (fun b _ hb => .inl hb) hr) (RowOf.kept (fun b _ hb => hkeep b (hok2 b hb)) (fun b _ hb => .inr hb) h2)
  · intro b hb
    have hb' : base ≤ b ∧ b < w.heap.size ∧ some b ≠ v.ownBlock := by rcases hb with hb | hb; exact hok b hb; exact hok2 b hb
    refine ⟨hb'.1, Nat.lt_of_lt_of_le hb'.2.1 (by have := hgr.size; simpa [World.setCell] using this), fun e => ?_⟩
    simp only [Value.ownBlock, Option.some.injEq] at e
    subst e
    rcases hat with h1 | h1
    · exact hb'.2.2 h1.symm
    · omega
  · exact ((Chg.grown hgr).mono (fun _ _ h => .inr h)).trans ((Chg.set _ _ _).mono (fun _ _ h => .inl h))

/-- the element that the box holds -/
theorem Grow.tree {w : World} {base kb : Nat} {nm : ByteArray} {ks : List Tree} {v : Value} (h : Grow w base kb nm ks v) (h1 : nm.size ≤ maxRead) (h2 : ks.length ≤ 2513169434843) :
    ∃ ok : Nat → Prop, TreeOn w ok (.node nm ⟨#[]⟩ ks) (.string nm) (.string ⟨#[]⟩) v ∧ ∀ b, ok b → base ≤ b ∧ b < w.heap.size := by
  obtain ⟨xs, ok, ho, hr, hok⟩ := h.row
  rcases ho.2 with ⟨rfl, h0⟩ | ⟨g, cap, cur, rfl, hb, hg, hn, hm, hcs, ht⟩
  · obtain rfl := List.eq_nil_of_length_eq_zero h0
    refine ⟨fun _ => False, ?_, fun b h => h.elim⟩
    unfold TreeOn
    exact ⟨rfl, rfl, h1, by unfold maxRead; simp [ByteArray.size], by simp, none, 0, rfl, by unfold KidsOn; trivial⟩
  · refine ⟨fun b => ok b ∨ b = g, ?_, fun b hb' => ?_⟩
    · unfold TreeOn
      refine ⟨rfl, rfl, h1, by unfold maxRead; simp [ByteArray.size], h2, _, _, rfl, RowOf.kids (.inr rfl) (fun _ h => .inl h) hr (fun j u hj => ?_)⟩
      have hl := RowOf.length hr
      have hjl := (List.getElem?_eq_some_iff.1 hj).1
      simp only [Nat.zero_add, Nat.zero_mul]
      simp only [World.cell?, hg]
      rw [← ht, List.getElem?_take, if_pos (by omega), Array.getElem?_toList] at hj
      simpa using hj
    · rcases hb' with h3 | rfl
      · exact ⟨(hok b h3).1, (hok b h3).2.1⟩
      · exact ⟨hb, (Array.getElem?_eq_some_iff.1 hg).1⟩

end Go.Proofs.YtgmgghbocidibaaGreatDoor
