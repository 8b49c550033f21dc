/-
  SEVERAL SMALL TEXTS IN ONE.
-/
import Derived.Test.YtgmgghbocidibaaGreatDoorSm1
import Derived.Test.YtgmgghbocidibaaGreatDoorSm4
import Derived.Deep.AppendLies
import Derived.Test.YtgmgghbocidibaaGreatDoorSm0
import Derived.Deep.RegionHeld3
/-
  TREES that the call builds: the blocks in which they lie; rows of trees that grow.
-/
namespace Go.Proofs.YtgmgghbocidibaaGreatDoor
open Go.RowKit

mutual
/-- three cells hold the tree, in blocks that meet ok -/
def TreeOn (w : World) (ok : Nat → Prop) : Tree → Value → Value → Value → Prop
  | .node n t ks, x, y, z => x = .string n ∧ y = .string t ∧ n.size ≤ maxRead ∧ t.size ≤ maxRead ∧ ks.length ≤ 2513169434843 ∧ ∃ a c, z = .slice a ks.length c ∧ KidsOn w ok ks a 0
def KidsOn (w : World) (ok : Nat → Prop) : List Tree → Option Addr → Nat → Prop
  | [], _, _ => True
  | k :: ks, a, i => (∃ b off x y z, a = some ⟨b, off, none⟩ ∧ ok b ∧ w.cell? ⟨b, off + i * 3, none⟩ = some x ∧ w.cell? ⟨b, off + i * 3 + 1, none⟩ = some y ∧ w.cell? ⟨b, off + i * 3 + 2, none⟩ = some z ∧ TreeOn w ok k x y z) ∧ KidsOn w ok ks a (i + 1)
end

mutual
theorem TreeOn.kept {w w' : World} {ok ok' : Nat → Prop} (hb : ∀ b, b < w.heap.size → ok b → w'.heap[b]? = w.heap[b]?) (ho : ∀ b, b < w.heap.size → ok b → ok' b) : ∀ (t : Tree) (x y z : Value), TreeOn w ok t x y z → TreeOn w' ok' t x y z
  | .node n t ks, x, y, z, h => by
    unfold TreeOn at *
    obtain ⟨h1, h2, h3, h4, h5, a, c, h6, h7⟩ := h
    exact ⟨h1, h2, h3, h4, h5, a, c, h6, KidsOn.kept hb ho ks a 0 h7⟩
theorem KidsOn.kept {w w' : World} {ok ok' : Nat → Prop} (hb : ∀ b, b < w.heap.size → ok b → w'.heap[b]? = w.heap[b]?) (ho : ∀ b, b < w.heap.size → ok b → ok' b) : ∀ (ks : List Tree) (a : Option Addr) (i : Nat), KidsOn w ok ks a i → KidsOn w' ok' ks a i
  | [], _, _, _ => by unfold KidsOn; trivial
  | k :: ks, a, i, h => by
    unfold KidsOn at *
    obtain ⟨⟨b, off, x, y, z, h1, h1', h2, h3, h4, h5⟩, h6⟩ := h
    have hlt : b < w.heap.size := World.block_lt_of_cell? w _ h2
    have e : ∀ o, w'.cell? ⟨b, o, none⟩ = w.cell? ⟨b, o, none⟩ := fun o => World.cell?_of_block (w := w) (hb b hlt h1')
    exact ⟨⟨b, off, x, y, z, h1, ho b hlt h1', (e _).trans h2, (e _).trans h3, (e _).trans h4, TreeOn.kept hb ho k x y z h5⟩, KidsOn.kept hb ho ks a (i + 1) h6⟩
end

mutual
theorem TreeOn.to_in {w : World} {ok : Nat → Prop} : ∀ (t : Tree) (x y z : Value), TreeOn w ok t x y z → TreeIn w t x y z
  | .node n t ks, x, y, z, h => by
    unfold TreeOn at h
    unfold TreeIn
    obtain ⟨h1, h2, h3, h4, h5, a, c, h6, h7⟩ := h
    exact ⟨h1, h2, h3, h4, h5, a, c, h6, KidsOn.to_in ks a 0 h7⟩
theorem KidsOn.to_in {w : World} {ok : Nat → Prop} : ∀ (ks : List Tree) (a : Option Addr) (i : Nat), KidsOn w ok ks a i → KidsIn w ks a i
  | [], _, _, _ => by unfold KidsIn; trivial
  | k :: ks, a, i, h => by
    unfold KidsOn at h
    unfold KidsIn
    obtain ⟨⟨b, off, x, y, z, h1, _, h2, h3, h4, h5⟩, h6⟩ := h
    exact ⟨⟨b, off, x, y, z, h1, h2, h3, h4, TreeOn.to_in k x y z h5⟩, KidsOn.to_in ks a (i + 1) h6⟩
end

/-- some trees' cells, one behind the other -/
def RowOf (w : World) (ok : Nat → Prop) : List Tree → List Value → Prop
  | [], xs => xs = []
  | k :: ks, xs => ∃ x y z r, xs = x :: y :: z :: r ∧ TreeOn w ok k x y z ∧ RowOf w ok ks r

theorem RowOf.kept {w w' : World} {ok ok' : Nat → Prop} (hb : ∀ b, b < w.heap.size → ok b → w'.heap[b]? = w.heap[b]?) (ho : ∀ b, b < w.heap.size → ok b → ok' b) : ∀ {ks : List Tree} {xs : List Value}, RowOf w ok ks xs → RowOf w' ok' ks xs
  | [], _, h => h
  | _ :: _, _, ⟨x, y, z, r, h1, h2, h3⟩ => ⟨x, y, z, r, h1, TreeOn.kept hb ho _ _ _ _ h2, RowOf.kept hb ho h3⟩
theorem RowOf.append {w : World} {ok : Nat → Prop} : ∀ {ks ks2 : List Tree} {xs ys : List Value}, RowOf w ok ks xs → RowOf w ok ks2 ys → RowOf w ok (ks ++ ks2) (xs ++ ys)
  | [], _, _, _, h, h2 => by subst h; exact h2
  | _ :: _, _, _, _, ⟨x, y, z, r, h1, h2, h3⟩, h4 => ⟨x, y, z, r ++ _, by rw [h1]; rfl, h2, RowOf.append h3 h4⟩
theorem RowOf.length {w : World} {ok : Nat → Prop} : ∀ {ks : List Tree} {xs : List Value}, RowOf w ok ks xs → xs.length = ks.length * 3
  | [], _, h => by subst h; rfl
  | _ :: _, _, ⟨x, y, z, r, h1, h2, h3⟩ => by rw [h1]; simp [RowOf.length h3]; omega
theorem RowOf.one {w : World} {ok : Nat → Prop} {k : Tree} {x y z : Value} (h : TreeOn w ok k x y z) : RowOf w ok [k] [x, y, z] := ⟨x, y, z, [], rfl, h, rfl⟩
theorem TreeOn.oneCell {w : World} {ok : Nat → Prop} {t : Tree} {x y z : Value} (h : TreeOn w ok t x y z) : x.oneCell' = true ∧ y.oneCell' = true ∧ z.oneCell' = true := by
  cases t with
  | node n t ks =>
    unfold TreeOn at h
    obtain ⟨rfl, rfl, _, _, _, a, c, rfl, _⟩ := h
    exact ⟨rfl, rfl, rfl⟩
theorem RowOf.oneCell {w : World} {ok : Nat → Prop} : ∀ {ks : List Tree} {xs : List Value}, RowOf w ok ks xs → ∀ u ∈ xs, u.oneCell' = true
  | [], _, h, u, hu => by subst h; cases hu
  | _ :: _, _, ⟨x, y, z, r, h1, h2, h3⟩, u, hu => by
    subst h1
    obtain ⟨a, b, c⟩ := h2.oneCell
    simp only [List.mem_cons] at hu
    rcases hu with rfl | rfl | rfl | hu
    · exact a
    · exact b
    · exact c
    · exact RowOf.oneCell h3 u hu
/-- a row that lies in a block: the kids of a tree -/
theorem RowOf.kids {w : World} {ok ok' : Nat → Prop} {b off : Nat} (hob : ok' b) (ho : ∀ b, ok b → ok' b) : ∀ {ks : List Tree} {xs : List Value} {i : Nat}, RowOf w ok ks xs → (∀ j u, xs[j]? = some u → w.cell? ⟨b, off + i * 3 + j, none⟩ = some u) → KidsOn w ok' ks (some ⟨b, off, none⟩) i
  | [], _, _, _, _ => by unfold KidsOn; trivial
  | k :: ks, _, i, ⟨x, y, z, r, h1, h2, h3⟩, hc => by
    subst h1
    unfold KidsOn
    refine ⟨⟨b, off, x, y, z, rfl, hob, hc 0 x rfl, hc 1 y rfl, hc 2 z rfl, TreeOn.kept (fun _ _ _ => rfl) (fun b _ => ho b) k x y z h2⟩, RowOf.kids hob ho h3 (fun j u hj => ?_)⟩
    have := hc (j + 3) u (by simpa using hj)
    rw [show off + (i + 1) * 3 + j = off + i * 3 + (j + 3) from by omega]
    exact this

/-- a box kb of an element whose kids grow, at home from base on -/
structure Grow (w : World) (base kb : Nat) (nm : ByteArray) (ks : List Tree) (v : Value) : Prop where
  box : w.heap[kb]? = some (.cells #[.string nm, .string ⟨#[]⟩, v] 24 (0, 0))
  low : kb < base
  row : ∃ xs, ∃ ok : Nat → Prop, w.ownsRow base 24 3 v ks.length xs ∧ RowOf w ok ks xs ∧ ∀ b, ok b → base ≤ b ∧ b < w.heap.size ∧ some b ≠ v.ownBlock

theorem Grow.kb_lt {w : World} {base kb : Nat} {nm : ByteArray} {ks : List Tree} {v : Value} (h : Grow w base kb nm ks v) : kb < w.heap.size := (Array.getElem?_eq_some_iff.1 h.box).1
theorem Grow.own_lt {w : World} {base kb : Nat} {nm : ByteArray} {ks : List Tree} {v : Value} (h : Grow w base kb nm ks v) {g : Nat} (hg : v.ownBlock = some g) : base ≤ g ∧ g < w.heap.size := by
  obtain ⟨xs, ok, ho, _, _⟩ := h.row
  exact ho.lt g hg
/-- nothing of the box, nothing from base on but new blocks and M's -/
theorem Grow.kept {w w' : World} {base kb : Nat} {nm : ByteArray} {ks : List Tree} {v : Value} {M : Nat → Prop} (h : Grow w base kb nm ks v) (hc : Chg w w' M) (hk : ¬ M kb) (hm : ∀ b, base ≤ b → b < w.heap.size → ¬ M b) : Grow w' base kb nm ks v := by
  obtain ⟨xs, ok, ho, hr, hk2⟩ := h.row
  refine ⟨by rw [hc.block kb h.kb_lt hk]; exact h.box, h.low, xs, ok, ?_, RowOf.kept (fun b hb hob => hc.block b hb (hm b (hk2 b hob).1 hb)) (fun _ _ h => h) hr, fun b hb => ⟨(hk2 b hb).1, Nat.lt_of_lt_of_le (hk2 b hb).2.1 hc.size, (hk2 b hb).2.2⟩⟩
  refine ⟨ho.1, ?_⟩
  rcases ho.2 with h1 | ⟨g, cap, cur, hv, hg, hh, r⟩
  · exact .inl h1
  · exact .inr ⟨g, cap, cur, hv, hg, by rw [hc.block g (Array.getElem?_eq_some_iff.1 hh).1 (hm g hg (Array.getElem?_eq_some_iff.1 hh).1)]; exact hh, r⟩
theorem Grow.later {w w' : World} {base kb : Nat} {nm : ByteArray} {ks : List Tree} {v : Value} (h : Grow w base kb nm ks v) (hb : Below w.heap.size w w') : Grow w' base kb nm ks v :=
  h.kept (M := fun _ => False) (Chg.of_below hb) (fun x => x) (fun _ _ _ x => x)

/-- more kids -/
theorem Grow.push {w w1 w' : World} {base kb : Nat} {nm : ByteArray} {ks ks2 : List Tree} {v : Value} {g cap : Nat} {xs news : List Value} {ok ok2 : Nat → Prop} (h : Grow w base kb nm ks v)
    (hr : RowOf w ok ks xs) (hok : ∀ b, ok b → base ≤ b ∧ b < w.heap.size ∧ some b ≠ v.ownBlock)
    (h2 : RowOf w ok2 ks2 news) (hok2 : ∀ b, ok2 b → base ≤ b ∧ b < w.heap.size ∧ some b ≠ v.ownBlock)
    (hown : w1.ownsRow base 24 3 (.slice (some ⟨g, 0, none⟩) (ks.length + ks2.length) cap) (ks.length + ks2.length) (xs ++ news)) (hgr : w.grownBy w1 v.ownBlock) (hat : v.ownBlock = some g ∨ g = w.heap.size) (hlt : g < w1.heap.size)
    (hw : w' = w1.setCell ⟨kb, 2, none⟩ (.slice (some ⟨g, 0, none⟩) (ks.length + ks2.length) cap)) :
    Grow w' base kb nm (ks ++ ks2) (.slice (some ⟨g, 0, none⟩) (ks.length + ks2.length) cap) ∧ Chg w w' (fun b => b = kb ∨ some b = v.ownBlock) := by
  subst hw
  have hkb := h.kb_lt
  have hlow := h.low
  have hkv : some kb ≠ v.ownBlock := fun e => by have := (h.own_lt e.symm).1; omega
  have hbox1 : w1.heap[kb]? = some (.cells #[.string nm, .string ⟨#[]⟩, v] 24 (0, 0)) := by rw [hgr.block kb hkb hkv]; exact h.box
  have hgb : base ≤ g := (hown.lt g rfl).1
  refine ⟨⟨?_, hlow, xs ++ news, fun b => ok b ∨ ok2 b, ?_, ?_, ?_⟩, ?_⟩
  · rw [heap_set hbox1]; simp
  · rw [List.length_append]
    refine ⟨hown.1, ?_⟩
    rcases hown.2 with h1 | ⟨g', cap', cur, hv, hg, hh, r⟩
    · exact .inl h1
    · exact .inr ⟨g', cap', cur, hv, hg, by rw [Below.heap_setCell _ _ _ _ (by simp; omega)]; exact hh, r⟩
  · have hkeep : ∀ b, base ≤ b ∧ b < w.heap.size ∧ some b ≠ v.ownBlock → (w1.setCell ⟨kb, 2, none⟩ (.slice (some ⟨g, 0, none⟩) (ks.length + ks2.length) cap)).heap[b]? = w.heap[b]? := fun b hb => by
      rw [Below.heap_setCell _ _ _ _ (by simp; omega), hgr.block b hb.2.1 hb.2.2]
    exact RowOf.append (RowOf.kept (fun b _ hb => hkeep b (hok b hb)) (fun b _ hb => .inl hb) hr) (RowOf.kept (fun b _ hb => hkeep b (hok2 b hb)) (fun b _ hb => .inr hb) h2)
  · intro b hb
    have hb' : base ≤ b ∧ b < w.heap.size ∧ some b ≠ v.ownBlock := by rcases hb with hb | hb; exact hok b hb; exact hok2 b hb
    refine ⟨hb'.1, Nat.lt_of_lt_of_le hb'.2.1 (by have := hgr.size; simpa [World.setCell] using this), fun e => ?_⟩
    simp only [Value.ownBlock, Option.some.injEq] at e
    subst e
    rcases hat with h1 | h1
    · exact hb'.2.2 h1.symm
    · omega
  · exact ((Chg.grown hgr).mono (fun _ _ h => .inr h)).trans ((Chg.set _ _ _).mono (fun _ _ h => .inl h))

/-- the element that the box holds -/
theorem Grow.tree {w : World} {base kb : Nat} {nm : ByteArray} {ks : List Tree} {v : Value} (h : Grow w base kb nm ks v) (h1 : nm.size ≤ maxRead) (h2 : ks.length ≤ 2513169434843) :
    ∃ ok : Nat → Prop, TreeOn w ok (.node nm ⟨#[]⟩ ks) (.string nm) (.string ⟨#[]⟩) v ∧ ∀ b, ok b → base ≤ b ∧ b < w.heap.size := by
  obtain ⟨xs, ok, ho, hr, hok⟩ := h.row
  rcases ho.2 with ⟨rfl, h0⟩ | ⟨g, cap, cur, rfl, hb, hg, hn, hm, hcs, ht⟩
  · obtain rfl := List.eq_nil_of_length_eq_zero h0
    refine ⟨fun _ => False, ?_, fun b h => h.elim⟩
    unfold TreeOn
    exact ⟨rfl, rfl, h1, by unfold maxRead; simp [ByteArray.size], by simp, none, 0, rfl, by unfold KidsOn; trivial⟩
  · refine ⟨fun b => ok b ∨ b = g, ?_, fun b hb' => ?_⟩
    · unfold TreeOn
      refine ⟨rfl, rfl, h1, by unfold maxRead; simp [ByteArray.size], h2, _, _, rfl, RowOf.kids (.inr rfl) (fun _ h => .inl h) hr (fun j u hj => ?_)⟩
      have hl := RowOf.length hr
      have hjl := (List.getElem?_eq_some_iff.1 hj).1
      simp only [Nat.zero_add, Nat.zero_mul]
      simp only [World.cell?, hg]
      rw [← ht, List.getElem?_take, if_pos (by omega), Array.getElem?_toList] at hj
      simpa using hj
    · rcases hb' with h3 | rfl
      · exact ⟨(hok b h3).1, (hok b h3).2.1⟩
      · exact ⟨hb, (Array.getElem?_eq_some_iff.1 hg).1⟩

end Go.Proofs.YtgmgghbocidibaaGreatDoor

/-
  A region that draws its order and ends with ONE operation that waits for all others (a store of what was read and made): behind that last one the condition S need not hold. (After the kit's OrdersHeld.)
-/
namespace Go.Proofs.YtgmgghbocidibaaGreatDoor
open Go.RowKit

section
variable {P : Program} {ops : Array Oper} {Q : Exit → Act → World → Prop} {md : Region.Mode} {S : World → Prop} {last : Nat}

def wpAnyL (P : Program) (md : Region.Mode) (ops : Array Oper) (Q : Exit → Act → World → Prop) (S : World → Prop) (last : Nat) : Nat → Array Bool → Act → World → Prop
  | 0, listed, a, w => Region.ready md ops listed = [] ∧ Q .normal a w
  | fuel + 1, listed, a, w =>
    (Region.ready md ops listed = [] → Q .normal a w) ∧
    ∀ i ∈ Region.ready md ops listed, wpOp P ops Q i (fun a' w' => (i = last ∨ S w') ∧ wpAnyL P md ops Q S last fuel (listed.setIfInBounds i true) a' w') a w

theorem wpAny_of_heldL : ∀ (fuel : Nat) (listed : Array Bool) (a : Act) (w : World), wpAnyL P md ops Q S last fuel listed a w → wpAny P md ops Q fuel listed a w
  | 0, _, _, _, h => h
  | fuel + 1, _, _, _, h => ⟨h.1, fun i hi => wpOp_mono (fun a' w' h' => wpAny_of_heldL fuel _ a' w' h'.2) (h.2 i hi)⟩

theorem wpAnyL_first {i : Nat} {oi : Oper} {v : Value} (hi : ops[i]? = some oi) (hsel : ∀ (j : Nat) (o : Oper) cs b, ops[j]? = some o → o.op ≠ .select cs b)
    (hQ : ∀ c a w, Q (.panic c) (a.put oi.dst v) w → Q (.panic c) a w) (hil : i ≠ last) (hwait : ∀ ol, ops[last]? = some ol → ∃ e ∈ ol.after, Region.binds md e = true ∧ e.on = i) :
    ∀ (fuel : Nat) (listed : Array Bool) (a : Act) (w : World),
      (∀ j oj, ops[j]? = some oj → j ≠ i → listed.getD j true = false → (∀ e ∈ oj.after, Region.binds md e = true → e.on ≠ i) → oi.apart ops oj = true) →
      i ∈ Region.ready md ops listed → YieldsIf P ops S oi v a → S w →
      wpAnyL P md ops Q S last fuel (listed.setIfInBounds i true) (a.put oi.dst v) w → wpAnyL P md ops Q S last (fuel + 1) listed a w := by
  intro fuel
  induction fuel with
  | zero =>
    intro listed a w _ hr hy hS H
    refine ⟨fun h => (by rw [h] at hr; cases hr), fun j hj => ?_⟩
    by_cases hji : j = i
    · subst hji; exact hy.wpOp hi hS ⟨.inr hS, H⟩
    · have := ready_mono hj hji
      rw [H.1] at this
      cases this
  | succ fuel ih =>
    intro listed a w hfree hr hy hS H
    refine ⟨fun h => (by rw [h] at hr; cases hr), fun j hj => ?_⟩
    by_cases hji : j = i
    · subst hji; exact hy.wpOp hi hS ⟨.inr hS, H⟩
    · have h1 := H.2 j (ready_mono hj hji)
      obtain ⟨hjun, oj, hoj, hall⟩ := mem_ready.1 hj
      have hnot : ∀ e ∈ oj.after, Region.binds md e = true → e.on ≠ i := fun e he hb heq => by
        have h1 := hall e he hb
        have h0 := (mem_ready.1 hr).1
        rw [heq] at h1
        rcases Nat.lt_or_ge i listed.size with h' | h'
        · simp [h'] at h0 h1; rw [h0] at h1; cases h1
        · simp [Array.getElem?_eq_none h'] at h1
      have hjl : j ≠ last := fun e => by
        subst e
        obtain ⟨e, he, hb, hon⟩ := hwait oj hoj
        exact hnot e he hb hon
      have h2 := wpOp_putIf hoj (hfree j oj hoj hji hjun hnot) (fun cs b => hsel i oi cs b hi) (fun cs b => hsel j oj cs b hoj) hQ hy h1
      have hfree' : ∀ k ok, ops[k]? = some ok → k ≠ i → (listed.setIfInBounds j true).getD k true = false →
          (∀ e ∈ ok.after, Region.binds md e = true → e.on ≠ i) → oi.apart ops ok = true := fun k ok hk hki hun hno => by
        refine hfree k ok hk hki ?_ hno
        by_cases hjk : j = k
        · subst hjk; exact hjun
        · rw [getD_set_ne true hjk] at hun; exact hun
      refine wpOp_mono (fun a' w' h3 => ?_) h2
      have hSw : S w' := h3.2.1.resolve_left hjl
      refine ⟨.inr hSw, ih (listed.setIfInBounds j true) a' w' hfree' (ready_mono hr (Ne.symm hji)) h3.1 hSw ?_⟩
      rw [Array.setIfInBounds_comm _ _ hji]
      exact h3.2.2

/-- does the last one wait for number 'i'? -/
def lastWaits (md : Region.Mode) (ops : Array Oper) (last i : Nat) : Bool :=
  (i != last) && match ops[last]? with
    | some ol => ol.after.any (fun e => Region.binds md e && e.on == i)
    | none => true
theorem wpAnyL_take {i : Nat} {oi : Oper} {v : Value} {fuel : Nat} {listed : Array Bool} {a : Act} {w : World} (hi : ops[i]? = some oi)
    (hs : Region.noSelect ops = true) (hf : Region.free md ops listed i = true) (hr : (Region.ready md ops listed).contains i = true) (hw : lastWaits md ops last i = true)
    (hQ : ∀ c a w, Q (.panic c) (a.put oi.dst v) w → Q (.panic c) a w) (hy : YieldsIf P ops S oi v a) (hS : S w)
    (h : wpAnyL P md ops Q S last fuel (listed.setIfInBounds i true) (a.put oi.dst v) w) : wpAnyL P md ops Q S last (fuel + 1) listed a w := by
  unfold lastWaits at hw
  simp only [Bool.and_eq_true, bne_iff_ne] at hw
  refine wpAnyL_first hi (Region.noSelect_spec hs) hQ hw.1 (fun ol hol => ?_) fuel listed a w (Region.free_spec hi hf) (by simpa using hr) hy hS h
  have h2 := hw.2
  rw [hol] at h2
  simp only [Array.any_eq_true] at h2
  obtain ⟨k, hk, h3⟩ := h2
  simp only [Bool.and_eq_true, beq_iff_eq] at h3
  exact ⟨_, Array.getElem_mem hk, h3.1, h3.2⟩

def AllReadyL (P : Program) (md : Region.Mode) (ops : Array Oper) (Q : Exit → Act → World → Prop) (S : World → Prop) (last fuel : Nat) (listed : Array Bool) (a : Act) (w : World) (rs : List Nat) : Prop :=
  ∀ i ∈ rs, wpOp P ops Q i (fun a' w' => (i = last ∨ S w') ∧ wpAnyL P md ops Q S last fuel (listed.setIfInBounds i true) a' w') a w
theorem AllReadyL.nil {fuel : Nat} {listed : Array Bool} {a : Act} {w : World} : AllReadyL P md ops Q S last fuel listed a w [] := fun _ h => by cases h
theorem AllReadyL.cons {fuel : Nat} {listed : Array Bool} {a : Act} {w : World} {i : Nat} {o : Oper} {rs : List Nat} (ho : ops[i]? = some o)
    (h : ∀ K' : Act → World → Prop, Shut (∀ a w, S w → (S w → wpAnyL P md ops Q S last fuel (listed.setIfInBounds i true) a w) → K' a w) → if Region.wanted o (yielded ops a.tmps) = true then Oper.wp P o a w K' Q else K' (a.put o.dst undef) w)
    (hs : AllReadyL P md ops Q S last fuel listed a w rs) : AllReadyL P md ops Q S last fuel listed a w (i :: rs) := fun j hj => by
  rcases List.mem_cons.1 hj with rfl | hj
  · exact wpOp_step ho (fun K' hK => h K' (fun a w hS hW => hK a w ⟨.inr hS, hW hS⟩))
  · exact hs j hj
/-- the last one -/
theorem AllReadyL.final {fuel : Nat} {listed : Array Bool} {a : Act} {w : World} {o : Oper} (ho : ops[last]? = some o)
    (h : ∀ K' : Act → World → Prop, Shut (∀ a w, wpAnyL P md ops Q S last fuel (listed.setIfInBounds last true) a w → K' a w) → if Region.wanted o (yielded ops a.tmps) = true then Oper.wp P o a w K' Q else K' (a.put o.dst undef) w) :
    AllReadyL P md ops Q S last fuel listed a w [last] := fun j hj => by
  obtain rfl : j = last := by simpa using hj
  exact wpOp_step ho (fun K' hK => h K' (fun a w hW => hK a w ⟨.inl rfl, hW⟩))
theorem wpAnyL_ready {rs : List Nat} {fuel : Nat} {listed : Array Bool} {a : Act} {w : World} (hr : Region.ready md ops listed = rs) (hne : rs ≠ [])
    (h : AllReadyL P md ops Q S last fuel listed a w rs) : wpAnyL P md ops Q S last (fuel + 1) listed a w := ⟨fun h0 => absurd (hr ▸ h0) hne, hr ▸ h⟩
theorem wpAnyL_done {listed : Array Bool} {a : Act} {w : World} (hr : Region.ready md ops listed = []) (h : Q .normal a w) :
    ∀ fuel, wpAnyL P md ops Q S last fuel listed a w
  | 0 => ⟨hr, h⟩
  | _ + 1 => ⟨fun _ => h, by rw [hr]; simp⟩
theorem wp_region_heldL_drew {id : Nat} {a : Act} {w : World} (last : Nat) (hm : P.follows .mixedOrders = true) (hS : S w.drew)
    (h : S w.drew → wpAnyL P .any ops Q S last ops.size (Array.replicate ops.size false) a w.drew) : (Code.region id ops true).wp P Q a w :=
  wp_region_any hm (wpAny_of_heldL _ _ _ _ (h hS))
end

end Go.Proofs.YtgmgghbocidibaaGreatDoor
