/-
  xml's reader: the elements that have not ended, as they lie.
-/
import Derived.Test.YtgmgghbocidibaaGreatDoorXmRef
import Derived.Test.YtgmgghbocidibaaGreatDoorXmLaw3
namespace Go.Proofs.YtgmgghbocidibaaGreatDoor
open Go.RowKit Go.Lib

/-- a block of elements -/
def IsE (w : World) (k : Nat) : Prop := ∃ cs, w.heap[k]? = some (.cells cs 24 (0, 0))
theorem IsE.lt {w : World} {k : Nat} (h : IsE w k) : k < w.heap.size := by
  obtain ⟨cs, h⟩ := h
  exact (Array.getElem?_eq_some_iff.1 h).1
/-- elements in a slice of one's own, in blocks lo .. hi -/
structure KidE (w : World) (lo hi : Nat) (kv : Value) (m : List Tree) : Prop where
  row : ∃ (xs : List Value) (ok : Nat → Prop), w.ownsRow lo 24 3 kv m.length xs ∧ RowOf w ok m xs ∧ (∀ b, ok b → lo ≤ b ∧ b < hi ∧ some b ≠ kv.ownBlock ∧ IsE w b) ∧ (∀ k, kv.ownBlock = some k → k < hi)
theorem KidE.nil (w : World) (lo hi : Nat) : KidE w lo hi (.slice none 0 0) [] := ⟨[], fun _ => False, World.ownsRow_nil _ _ _ _, rfl, fun _ h => h.elim, fun k h => by cases h⟩
theorem own_isE {w : World} {lo : Nat} {kv : Value} {n : Nat} {xs : List Value} (h : w.ownsRow lo 24 3 kv n xs) {k : Nat} (hk : kv.ownBlock = some k) : IsE w k := by
  rcases h.2 with ⟨rfl, _⟩ | ⟨g, cap, cur, rfl, hb, hg, _⟩
  · cases hk
  · injection hk with hk
    simp only at hk
    subst hk
    exact ⟨cur, hg⟩
theorem own_keep {w w' : World} {lo : Nat} {e : TypeId} {sz : Nat} {v : Value} {n : Nat} {xs : List Value} (h : w.ownsRow lo e sz v n xs) (hk : ∀ k, v.ownBlock = some k → w'.heap[k]? = w.heap[k]?) : w'.ownsRow lo e sz v n xs := by
  refine ⟨h.1, ?_⟩
  rcases h.2 with h1 | ⟨g, cap, cur, rfl, hg, hh, r⟩
  · exact .inl h1
  · exact .inr ⟨g, cap, cur, rfl, hg, (hk g rfl).trans hh, r⟩
theorem own_base {w : World} {lo lo' : Nat} {e : TypeId} {sz : Nat} {v : Value} {n : Nat} {xs : List Value} (h : w.ownsRow lo e sz v n xs) (hl : lo' ≤ lo) : w.ownsRow lo' e sz v n xs :=
  ⟨h.1, h.2.imp id fun ⟨g, cap, cur, a, b, c⟩ => ⟨g, cap, cur, a, Nat.le_trans hl b, c⟩⟩
theorem KidE.kept {w w' : World} {lo hi hi' : Nat} {kv : Value} {m : List Tree} (h : KidE w lo hi kv m) (hh : hi ≤ hi') (hk : ∀ k, lo ≤ k → k < hi → IsE w k → w'.heap[k]? = w.heap[k]?) : KidE w' lo hi' kv m := by
  obtain ⟨xs, ok, h1, h2, h3, h4⟩ := h.row
  refine ⟨xs, ok, own_keep h1 (fun k hv => hk k (h1.lt k hv).1 (h4 k hv) (own_isE h1 hv)), RowOf.kept (fun b _ hb => hk b (h3 b hb).1 (h3 b hb).2.1 (h3 b hb).2.2.2) (fun _ _ h => h) h2, fun b hb => ⟨(h3 b hb).1, Nat.lt_of_lt_of_le (h3 b hb).2.1 hh, (h3 b hb).2.2.1, ?_⟩, fun k hv => Nat.lt_of_lt_of_le (h4 k hv) hh⟩
  obtain ⟨cs, he⟩ := (h3 b hb).2.2.2
  exact ⟨cs, (hk b (h3 b hb).1 (h3 b hb).2.1 ⟨cs, he⟩).trans he⟩
theorem KidE.form {w : World} {lo hi : Nat} {kv : Value} {m : List Tree} (h : KidE w lo hi kv m) : ∃ a c, kv = .slice a m.length c := by
  obtain ⟨xs, ok, h1, _⟩ := h.row
  exact own_form' h1
/-- an element in blocks lo .. hi -/
structure ElE (w : World) (lo hi : Nat) (t : Tree) (z : Value) : Prop where
  tree : ∃ ok : Nat → Prop, TreeOn w ok t (.string t.name) (.string t.text) z ∧ ∀ b, ok b → lo ≤ b ∧ b < hi ∧ IsE w b
theorem ElE.kept {w w' : World} {lo hi hi' : Nat} {t : Tree} {z : Value} (h : ElE w lo hi t z) (hh : hi ≤ hi') (hk : ∀ k, lo ≤ k → k < hi → IsE w k → w'.heap[k]? = w.heap[k]?) : ElE w' lo hi' t z := by
  obtain ⟨ok, h1, h2⟩ := h.tree
  refine ⟨ok, TreeOn.kept (fun b _ hb => hk b (h2 b hb).1 (h2 b hb).2.1 (h2 b hb).2.2) (fun _ _ h => h) _ _ _ _ h1, fun b hb => ⟨(h2 b hb).1, Nat.lt_of_lt_of_le (h2 b hb).2.1 hh, ?_⟩⟩
  obtain ⟨cs, he⟩ := (h2 b hb).2.2
  exact ⟨cs, (hk b (h2 b hb).1 (h2 b hb).2.1 ⟨cs, he⟩).trans he⟩
theorem ElE.own {w : World} {lo hi : Nat} {t : Tree} {z : Value} (h : ElE w lo hi t z) : OwnT w lo t z := by
  obtain ⟨ok, h1, h2⟩ := h.tree
  exact ⟨ok, h1, fun b hb => ⟨(h2 b hb).1, (h2 b hb).2.2.lt⟩⟩
/-- what has been read of an element is one -/
theorem KidE.elem {w : World} {lo hi : Nat} {kv : Value} {o : Opn} (h : KidE w lo hi kv o.kids) (h1 : o.name.length ≤ 100) (h2 : o.text.length ≤ 100000) (h3 : o.kids.length ≤ 100000) : ElE w lo hi o.elem kv := by
  obtain ⟨xs, ok, ho, hr, hok, hv⟩ := h.row
  have hn : (Bs.str o.name).size ≤ maxRead := by rw [show (Bs.str o.name).size = o.name.length from sz_str _]; unfold maxRead; omega
  have ht : (Bs.str (if o.kids = [] then o.text else [])).size ≤ maxRead := by
    rw [show (Bs.str (if o.kids = [] then o.text else [])).size = (if o.kids = [] then o.text else []).length from sz_str _]
    unfold maxRead
    split
    · omega
    · simp
  unfold Opn.elem
  rcases ho.2 with ⟨rfl, h0⟩ | ⟨g, cap, cur, rfl, hb, hg, hn', hm, hcs, htk⟩
  · refine ⟨fun _ => False, ?_, fun b h => h.elim⟩
    have h0' := List.eq_nil_of_length_eq_zero h0
    unfold TreeOn
    refine ⟨rfl, rfl, hn, ht, by omega, none, 0, by rw [h0']; rfl, ?_⟩
    rw [h0']
    unfold KidsOn
    trivial
  · refine ⟨fun b => ok b ∨ b = g, ?_, fun b hb' => ?_⟩
    · unfold TreeOn
      refine ⟨rfl, rfl, hn, ht, by omega, _, _, rfl, RowOf.kids (.inr rfl) (fun _ h => .inl h) hr (fun j u hj => ?_)⟩
      simp only [Nat.zero_add, Nat.zero_mul]
      rw [cell_of_heap hg, ← Array.getElem?_toList]
      have hjl := (List.getElem?_eq_some_iff.1 hj).1
      have hl := RowOf.length hr
      rw [← htk, List.getElem?_take, if_pos (by omega)] at hj
      exact hj
    · rcases hb' with h3 | rfl
      · exact ⟨(hok b h3).1, (hok b h3).2.1, (hok b h3).2.2.2⟩
      · exact ⟨hb, hv _ rfl, cur, hg⟩
/-- one more -/
theorem KidE.push {W W2 : World} {lo hi g cap : Nat} {v : Value} {m : List Tree} {k : Tree} {z : Value} {xs : List Value} {ok : Nat → Prop}
    (h1 : W.ownsRow lo 24 3 v m.length xs) (h2 : RowOf W ok m xs) (h3 : ∀ b, ok b → lo ≤ b ∧ b < W.heap.size ∧ some b ≠ v.ownBlock ∧ IsE W b)
    {mid : Nat} (ho : ElE W mid W.heap.size k z) (hmid : lo ≤ mid) (hv : ∀ b, v.ownBlock = some b → b < mid)
    (hown : W2.ownsRow lo 24 3 (.slice (some ⟨g, 0, none⟩) (m.length + 1) cap) (m.length + 1) (xs ++ [.string k.name, .string k.text, z])) (keep : ∀ b, IsE W b → some b ≠ v.ownBlock → W2.heap[b]? = W.heap[b]?) (hsz : W.heap.size ≤ W2.heap.size) (hat : v.ownBlock = some g ∨ W.heap.size ≤ g) (hhi : W2.heap.size ≤ hi) :
    KidE W2 lo hi (.slice (some ⟨g, 0, none⟩) (m.length + 1) cap) (m ++ [k]) := by
  obtain ⟨ok2, h4, h5⟩ := ho.tree
  refine ⟨xs ++ [.string k.name, .string k.text, z], fun b => ok b ∨ ok2 b, ?_, ?_, fun b hb' => ?_, fun b hb => ?_⟩
  · rw [List.length_append]; exact hown
  · refine RowOf.append (RowOf.kept (fun b hlt hok => keep b (h3 b hok).2.2.2 (h3 b hok).2.2.1) (fun _ _ h => .inl h) h2) (RowOf.one ?_)
    exact TreeOn.kept (fun b hlt hok => keep b (h5 b hok).2.2 (fun e => by have := hv b e.symm; have := (h5 b hok).1; omega)) (fun _ _ h => .inr h) _ _ _ _ h4
  · rcases hb' with hb' | hb'
    · have q := h3 b hb'
      obtain ⟨cs, he⟩ := q.2.2.2
      refine ⟨q.1, by omega, fun e => ?_, cs, (keep b q.2.2.2 q.2.2.1).trans he⟩
      simp only [Value.ownBlock, Option.some.injEq] at e
      subst e
      rcases hat with h | h
      · exact q.2.2.1 h.symm
      · omega
    · have q := h5 b hb'
      have hne : some b ≠ v.ownBlock := fun e => by have := hv b e.symm; omega
      obtain ⟨cs, he⟩ := q.2.2
      refine ⟨by omega, by omega, fun e => ?_, cs, (keep b q.2.2 hne).trans he⟩
      simp only [Value.ownBlock, Option.some.injEq] at e
      subst e
      rcases hat with h | h
      · exact hne h.symm
      · omega
  · have := (hown.lt b hb).2; omega

/-! ### the pile -/
/-- one that has not ended, in blocks g .. hi -/
structure OpIn (w : World) (o : Opn) (g hi : Nat) (kv v : Value) : Prop where
  bd : BdAt w g (Bs.str o.name) kv o.solid o.text v
  kids : KidE w (g + 1) hi kv o.kids
  top : g < hi
  buf : ∀ k, v.ownBlock = some k → k < hi
  emp : o.text = [] → v = .slice none 0 0
/-- of a type that the reader doesn't write by the way -/
def IsP (w : World) (k : Nat) : Prop := ∃ cs t, w.heap[k]? = some (.cells cs t (0, 0)) ∧ (t = 103 ∨ t = 5 ∨ t = 24)
theorem own_isP {w : World} {lo : Nat} {v : Value} {n : Nat} {xs : List Value} (h : w.ownsRow lo 5 1 v n xs) {k : Nat} (hk : v.ownBlock = some k) : IsP w k := by
  rcases h.2 with ⟨rfl, _⟩ | ⟨g, cap, cur, rfl, hb, hg, _⟩
  · cases hk
  · injection hk with hk
    simp only at hk
    subst hk
    exact ⟨cur, _, hg, .inr (.inl rfl)⟩
theorem IsE.isP {w : World} {k : Nat} (h : IsE w k) : IsP w k := by
  obtain ⟨cs, h⟩ := h
  exact ⟨cs, _, h, .inr (.inr rfl)⟩
theorem OpIn.isP {w : World} {o : Opn} {g hi : Nat} {kv v : Value} (h : OpIn w o g hi kv v) : IsP w g := by
  obtain ⟨ad, h1, _⟩ := h.bd.box
  exact ⟨_, _, h1, .inl rfl⟩
theorem OpIn.kept {w w' : World} {o : Opn} {g hi hi' : Nat} {kv v : Value} (h : OpIn w o g hi kv v) (hh : hi ≤ hi') (hk : ∀ k, g ≤ k → k < hi → IsP w k → w'.heap[k]? = w.heap[k]?) : OpIn w' o g hi' kv v := by
  refine ⟨⟨?_, own_keep h.bd.own fun k hv => hk k (by have := (h.bd.own.lt k hv).1; omega) (h.buf k hv) (own_isP h.bd.own hv)⟩, h.kids.kept hh fun k h1 h2 h3 => hk k (by omega) h2 h3.isP, Nat.lt_of_lt_of_le h.top hh, fun k hv => Nat.lt_of_lt_of_le (h.buf k hv) hh, h.emp⟩
  obtain ⟨ad, h1, h2⟩ := h.bd.box
  exact ⟨ad, (hk g (Nat.le_refl _) h.top h.isP).trans h1, h2⟩
/-- the pile, innermost first -/
def PileAt (w : World) : List Opn → List Nat → Nat → Prop
  | [], [], _ => True
  | o :: ps, g :: gs, hi => (∃ kv v, OpIn w o g hi kv v) ∧ PileAt w ps gs g
  | _, _, _ => False
theorem PileAt.kept {w w' : World} : ∀ {ps : List Opn} {gs : List Nat} {hi hi' : Nat}, PileAt w ps gs hi → hi ≤ hi' → (∀ k, k < hi → IsP w k → w'.heap[k]? = w.heap[k]?) → PileAt w' ps gs hi'
  | [], [], _, _, _, _, _ => trivial
  | o :: ps, g :: gs, hi, hi', ⟨⟨kv, v, h1⟩, h2⟩, hh, hk => ⟨⟨kv, v, h1.kept hh fun k _ h3 h4 => hk k h3 h4⟩, PileAt.kept h2 (Nat.le_refl _) fun k h3 h4 => hk k (Nat.lt_trans h3 h1.top) h4⟩
  | [], _ :: _, _, _, h, _, _ => h.elim
  | _ :: _, [], _, _, h, _, _ => h.elim
theorem PileAt.len {w : World} : ∀ {ps : List Opn} {gs : List Nat} {hi : Nat}, PileAt w ps gs hi → gs.length = ps.length
  | [], [], _, _ => rfl
  | _ :: _, _ :: _, _, ⟨_, h2⟩ => by simp [PileAt.len h2]
  | [], _ :: _, _, h => h.elim
  | _ :: _, [], _, h => h.elim
def ptr (g : Nat) : Value := .pointer (some ⟨g, 0, none⟩)
/-- the pile and the row of its pointers -/
structure Pile (w : World) (b B : Nat) (pv : Value) (ps : List Opn) (gs : List Nat) : Prop where
  row : w.ownsRow B 93 1 pv ps.length (gs.reverse.map ptr)
  at_ : PileAt w ps gs w.heap.size
  far : ∀ g ∈ gs, B ≤ g
  low : b < B
  hi : B ≤ w.heap.size
theorem Pile.kept {w w' : World} {b B : Nat} {pv : Value} {ps : List Opn} {gs : List Nat} (h : Pile w b B pv ps gs) (hs : w.heap.size ≤ w'.heap.size) (hp : ∀ k, pv.ownBlock = some k → w'.heap[k]? = w.heap[k]?) (hk : ∀ k, IsP w k → w'.heap[k]? = w.heap[k]?) : Pile w' b B pv ps gs :=
  ⟨own_keep h.row hp, h.at_.kept hs fun k _ h2 => hk k h2, h.far, h.low, Nat.le_trans h.hi hs⟩
theorem not_isP {w : World} {b : Nat} {cs : Array Value} {t : TypeId} (h : w.heap[b]? = some (.cells cs t (0, 0))) (h1 : t ≠ 103) (h2 : t ≠ 5) (h3 : t ≠ 24) : ¬ IsP w b := by
  rintro ⟨cs', t', e, h4⟩
  rw [h] at e
  injection e with e
  injection e with _ e _
  subst e
  rcases h4 with h4 | h4 | h4
  · exact h1 h4
  · exact h2 h4
  · exact h3 h4
theorem RdAt.type {w : World} {b : Nat} {S : ByteArray} {r : Bs} {pv : Value} (h : RdAt w b S r pv) : ∃ cs, w.heap[b]? = some (.cells cs 60 (0, 0)) := by
  obtain ⟨a, _, _, _, h4⟩ := h
  exact ⟨_, h4⟩
theorem RdAt.not_isP {w : World} {b : Nat} {S : ByteArray} {r : Bs} {pv : Value} (h : RdAt w b S r pv) : ¬ IsP w b := by
  obtain ⟨cs, h⟩ := h.type
  exact Go.Proofs.YtgmgghbocidibaaGreatDoor.not_isP h (by decide) (by decide) (by decide)
theorem Pile.pv_type {w : World} {b B : Nat} {pv : Value} {ps : List Opn} {gs : List Nat} (h : Pile w b B pv ps gs) {k : Nat} (hk : pv.ownBlock = some k) : B ≤ k ∧ ∃ cs, w.heap[k]? = some (.cells cs 93 (0, 0)) := by
  have h1 := (h.row.lt k hk).1
  rcases h.row.2 with ⟨rfl, _⟩ | ⟨g, cap, cur, rfl, hb, hg, _⟩
  · cases hk
  · injection hk with hk
    simp only at hk
    subst hk
    exact ⟨h1, cur, hg⟩
theorem Pile.pv_not {w : World} {b B : Nat} {pv : Value} {ps : List Opn} {gs : List Nat} (h : Pile w b B pv ps gs) {k : Nat} (hk : pv.ownBlock = some k) : ¬ IsP w k := by
  obtain ⟨_, cs, h1⟩ := h.pv_type hk
  exact Go.Proofs.YtgmgghbocidibaaGreatDoor.not_isP h1 (by decide) (by decide) (by decide)
/-- the reader wrote to itself alone -/
theorem Pile.mine {w w' : World} {b B : Nat} {S : ByteArray} {r : Bs} {pv : Value} {ps : List Opn} {gs : List Nat} (h : Pile w b B pv ps gs) (hr : RdAt w b S r pv) (hc : Mine b w w') : Pile w' b B pv ps gs :=
  h.kept hc.size (fun k hk => hc.block k (h.row.lt k hk).2 (by have := (h.pv_type hk).1; have := h.low; omega)) (fun k hk => by
    have hk2 := hk
    obtain ⟨cs, t, e, _⟩ := hk
    exact hc.block k (Array.getElem?_eq_some_iff.1 e).1 (fun e2 => by subst e2; exact hr.not_isP hk2))
/-- the machine: what is left, what is open -/
structure Mach (w : World) (b B : Nat) (S : ByteArray) (r : Bs) (ps : List Opn) : Prop where
  ex : ∃ pv gs, RdAt w b S r pv ∧ Pile w b B pv ps gs
def MachBad (w : World) (b : Nat) (S : ByteArray) (c : Int) (k : Nat) : Prop := ∃ pv, RdBad w b S c k pv
/-- nothing ahead of the reader was written -/
abbrev From (b B : Nat) (w w' : World) : Prop := Chg w w' (fun k => k = b ∨ B ≤ k)
theorem From.mine {b B : Nat} {w w' : World} (h : Mine b w w') : From b B w w' := Chg.mono h fun k _ e => .inl e
end Go.Proofs.YtgmgghbocidibaaGreatDoor
