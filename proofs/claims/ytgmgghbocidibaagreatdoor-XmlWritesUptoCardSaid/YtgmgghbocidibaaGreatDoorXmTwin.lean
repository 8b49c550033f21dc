/-
  xml.twin: an element in memory of its own. (Printed by wip/gen/xmtwin.py.)
-/
import Derived.Test.YtgmgghbocidibaaGreatDoorSm12
import Derived.Test.YtgmgghbocidibaaGreatDoorSm13
namespace Go.Proofs.YtgmgghbocidibaaGreatDoor
open Go.RowKit Go.Lib

theorem info_elem : ∃ i, Tryz.prog.info? 24 = some i ∧ i.zero = some (.agg elemZC) ∧ i.size = 3 ∧ i.bytes = 56 :=
  info_parts (show (Tryz.prog.info? 24).map (fun i => (i.zero, i.size, i.bytes)) = some (some (.agg elemZC), 3, 56) by kernel_rfl)
/-- kids as a row of cells -/
structure KidRow (w : World) (ks : List Tree) (news : List Value) : Prop where
  len : news.length = ks.length * 3
  at_ : ∀ (j : Nat) (k : Tree), ks[j]? = some k → ∃ a c, news[j * 3]? = some (.string k.name) ∧ news[j * 3 + 1]? = some (.string k.text) ∧ news[j * 3 + 2]? = some (.slice a k.kids.length c) ∧ ElemIn w k a c
  one : ∀ u ∈ news, u.oneCell' = true
theorem kid_row {w : World} : ∀ {ks : List Tree} {b off i : Nat}, KidsIn w ks (some ⟨b, off, none⟩) i → ∃ news, KidRow w ks news ∧ ∀ j u, news[j]? = some u → w.cell? ⟨b, off + i * 3 + j, none⟩ = some u
  | [], b, off, i, _ => ⟨[], ⟨rfl, fun j k h => by simp at h, fun u h => by cases h⟩, fun j u h => by simp at h⟩
  | k :: ks, b, off, i, h => by
    unfold KidsIn at h
    obtain ⟨⟨b', off', x, y, z, e, h1, h2, h3, h4⟩, h5⟩ := h
    injection e with e
    injection e with e1 e2 _
    subst e1 e2
    obtain ⟨rfl, rfl, _, _, _, a, c, rfl, _⟩ := h4.cells
    obtain ⟨news, hk, hc⟩ := kid_row h5
    refine ⟨.string k.name :: .string k.text :: .slice a k.kids.length c :: news, ⟨by simp only [List.length_cons, hk.len]; omega, fun j k' hj => ?_, fun u hu => ?_⟩, fun j u hj => ?_⟩
    · cases j with
      | zero =>
        simp only [List.getElem?_cons_zero, Option.some.injEq] at hj
        subst hj
        exact ⟨a, c, rfl, rfl, rfl, h4⟩
      | succ j =>
        obtain ⟨a', c', q1, q2, q3, q4⟩ := hk.at_ j k' (by simpa using hj)
        exact ⟨a', c', by rw [show (j + 1) * 3 = j * 3 + 3 by omega]; exact q1, by rw [show (j + 1) * 3 + 1 = j * 3 + 1 + 3 by omega]; exact q2, by rw [show (j + 1) * 3 + 2 = j * 3 + 2 + 3 by omega]; exact q3, q4⟩
    · simp only [List.mem_cons] at hu
      rcases hu with rfl | rfl | rfl | hu
      · rfl
      · rfl
      · rfl
      · exact hk.one u hu
    · rcases j with _ | _ | _ | j
      · injection hj with hj; subst hj; exact h1
      · injection hj with hj; subst hj; exact h2
      · injection hj with hj; subst hj; exact h3
      · have := hc j u (by simpa using hj)
        rw [show off + i * 3 + (j + 1 + 1 + 1) = off + (i + 1) * 3 + j by omega]
        exact this
/-- a tree in blocks from base on -/
def OwnT (w : World) (base : Nat) (t : Tree) (z : Value) : Prop := ∃ ok : Nat → Prop, TreeOn w ok t (.string t.name) (.string t.text) z ∧ ∀ b, ok b → base ≤ b ∧ b < w.heap.size
theorem OwnT.kept {w w' : World} {base : Nat} {t : Tree} {z : Value} (h : OwnT w base t z) (hb : ∀ b, base ≤ b → b < w.heap.size → w'.heap[b]? = w.heap[b]?) (hs : w.heap.size ≤ w'.heap.size) : OwnT w' base t z := by
  obtain ⟨ok, h1, h2⟩ := h
  exact ⟨ok, TreeOn.kept (fun b hlt hok => hb b (h2 b hok).1 hlt) (fun _ _ h => h) _ _ _ _ h1, fun b hok => ⟨(h2 b hok).1, Nat.lt_of_lt_of_le (h2 b hok).2 hs⟩⟩
theorem OwnT.later {w w' : World} {base : Nat} {t : Tree} {z : Value} (h : OwnT w base t z) (hb : Below w.heap.size w w') : OwnT w' base t z := h.kept (fun b _ hlt => hb.block b hlt) hb.size
theorem OwnT.base {w : World} {base base' : Nat} {t : Tree} {z : Value} (h : OwnT w base t z) (hb : base' ≤ base) : OwnT w base' t z := by
  obtain ⟨ok, h1, h2⟩ := h
  exact ⟨ok, h1, fun b hok => ⟨Nat.le_trans hb (h2 b hok).1, (h2 b hok).2⟩⟩
theorem OwnT.form {w : World} {base : Nat} {t : Tree} {z : Value} (h : OwnT w base t z) : ∃ a c, z = .slice a t.kids.length c ∧ ElemIn w t a c := by
  obtain ⟨ok, h1, _⟩ := h
  have h2 := TreeOn.to_in _ _ _ _ h1
  obtain ⟨_, _, _, _, _, a, c, rfl, _⟩ := h2.cells
  exact ⟨a, c, rfl, h2⟩
/-- twins under way: the row in block g: the first i are twins -/
structure TwAt (w W : World) (lo g i : Nat) (ks : List Tree) (cur : Array Value) : Prop where
  below : Below w.heap.size w W
  low : w.heap.size ≤ lo
  past : lo ≤ g
  at_ : W.heap[g]? = some (.cells cur 24 (0, 0))
  size : ks.length * 3 ≤ cur.size
  done : ∃ ok : Nat → Prop, RowOf W ok (ks.take i) (cur.toList.take (i * 3)) ∧ ∀ b, ok b → lo ≤ b ∧ b < W.heap.size ∧ b ≠ g
  rest : ∀ (j : Nat) (k : Tree), i ≤ j → ks[j]? = some k → ∃ a c, cur[j * 3]? = some (.string k.name) ∧ cur[j * 3 + 1]? = some (.string k.text) ∧ cur[j * 3 + 2]? = some (.slice a k.kids.length c) ∧ ElemIn w k a c
theorem TwAt.later {w W W' : World} {lo g i : Nat} {ks : List Tree} {cur : Array Value} (h : TwAt w W lo g i ks cur) (hb : Below W.heap.size W W') : TwAt w W' lo g i ks cur := by
  obtain ⟨ok, h1, h2⟩ := h.done
  exact ⟨h.below.trans (hb.mono h.below.size), h.low, h.past, (hb.block _ (Array.getElem?_eq_some_iff.1 h.at_).1).trans h.at_, h.size, ⟨ok, RowOf.kept (fun b hlt _ => hb.block b hlt) (fun _ _ h => h) h1, fun b hb' => ⟨(h2 b hb').1, Nat.lt_of_lt_of_le (h2 b hb').2.1 hb.size, (h2 b hb').2.2⟩⟩, h.rest⟩
theorem partSet_size {old : Array Value} {o : Nat} {vs : List Value} (h : o + vs.length ≤ old.size) : (partSet old o vs).size = old.size := by
  unfold partSet
  simp only [List.size_toArray, List.length_append, List.length_take, List.length_drop, Array.length_toList]
  omega
theorem partSet_take {old : Array Value} {o : Nat} {vs : List Value} (h : o + vs.length ≤ old.size) : (partSet old o vs).toList.take (o + vs.length) = old.toList.take o ++ vs := by
  unfold partSet
  have hl : (old.toList.take o ++ vs).length = o + vs.length := by
    rw [List.length_append, List.length_take, Array.length_toList]
    omega
  show ((old.toList.take o ++ vs) ++ old.toList.drop (o + vs.length)).take (o + vs.length) = _
  rw [← hl, List.take_left]
theorem partSet_past {old : Array Value} {o k : Nat} {vs : List Value} (h : o + vs.length ≤ k) (hs : o + vs.length ≤ old.size) : (partSet old o vs)[k]? = old[k]? := by
  have h1 : (partSet old o vs).toList = old.toList.take o ++ vs ++ old.toList.drop (o + vs.length) := rfl
  have hl : (old.toList.take o ++ vs).length = o + vs.length := by rw [List.length_append, List.length_take, Array.length_toList]; omega
  rw [← Array.getElem?_toList, h1, List.getElem?_append_right (by omega), List.getElem?_drop, hl, Nat.add_sub_cancel' h, Array.getElem?_toList]
/-- one twin more -/
theorem TwAt.put {w W : World} {lo g i : Nat} {ks : List Tree} {cur : Array Value} (h : TwAt w W lo g i ks cur) {k : Tree} (hk : ks[i]? = some k) {z : Value} {base : Nat} (ho : OwnT W base k z) (hb : g < base) :
    TwAt w (W.setRow g (partSet cur (i * 3) [.string k.name, .string k.text, z])) lo g (i + 1) ks (partSet cur (i * 3) [.string k.name, .string k.text, z]) := by
  have hlt := (List.getElem?_eq_some_iff.1 hk).1
  have hf : i * 3 + [Value.string k.name, .string k.text, z].length ≤ cur.size := by have := h.size; simp only [List.length_cons, List.length_nil]; omega
  obtain ⟨ok, h1, h2⟩ := h.done
  obtain ⟨ok2, h3, h4⟩ := ho
  have hg := (Array.getElem?_eq_some_iff.1 h.at_).1
  refine ⟨below_one_row _ _ _ _ _ h.below (Nat.le_trans h.low h.past), h.low, h.past, setRow_heap _ _ _ _ _ _ h.at_, by rw [partSet_size hf]; exact h.size, ⟨fun b => ok b ∨ ok2 b, ?_, fun b hb' => ?_⟩, fun j k' hj hk' => ?_⟩
  · rw [show (i + 1) * 3 = i * 3 + [Value.string k.name, .string k.text, z].length by simp only [List.length_cons, List.length_nil]; omega, partSet_take hf, List.take_add_one, hk]
    refine RowOf.append (RowOf.kept (fun b _ hb' => setRow_other _ _ _ _ (h2 b hb').2.2) (fun _ _ h => .inl h) h1) (RowOf.one ?_)
    exact TreeOn.kept (fun b _ hb' => setRow_other _ _ _ _ (by have := (h4 b hb').1; omega)) (fun _ _ h => .inr h) _ _ _ _ h3
  · rcases hb' with hb' | hb'
    · have := h2 b hb'; exact ⟨this.1, by simpa using this.2.1, this.2.2⟩
    · have h5 := h4 b hb'; have h6 := h.past; exact ⟨by omega, by simpa using h5.2, by omega⟩
  · obtain ⟨a, c, q1, q2, q3, q4⟩ := h.rest j k' (by omega) hk'
    have hlen : i * 3 + [Value.string k.name, .string k.text, z].length ≤ j * 3 := by simp only [List.length_cons, List.length_nil]; omega
    exact ⟨a, c, by rw [partSet_past (by omega) hf]; exact q1, by rw [partSet_past (by omega) hf]; exact q2, by rw [partSet_past (by omega) hf]; exact q3, q4⟩
theorem TwAt.all {w W : World} {lo g : Nat} {t : Tree} {cur : Array Value} {cap : Nat} (h : TwAt w W lo g t.kids.length t.kids cur) (hn : t.name.size ≤ maxRead) (ht : t.text.size ≤ maxRead) (hl : t.kids.length ≤ 2513169434843) : OwnT W lo t (.slice (some ⟨g, 0, none⟩) t.kids.length cap) := by
  obtain ⟨ok, h1, h2⟩ := h.done
  have hg := (Array.getElem?_eq_some_iff.1 h.at_).1
  refine ⟨fun b => ok b ∨ b = g, ?_, fun b hb => ?_⟩
  · rw [List.take_length] at h1
    cases t with
    | node n t ks =>
      unfold TreeOn
      refine ⟨rfl, rfl, hn, ht, hl, _, _, rfl, RowOf.kids (.inr rfl) (fun _ h => .inl h) h1 (fun j u hj => ?_)⟩
      have hj' := (List.getElem?_eq_some_iff.1 hj).1
      rw [List.getElem?_take] at hj
      split at hj
      · rw [cell_of_heap h.at_, ← Array.getElem?_toList]
        simpa using hj
      · cases hj
  · rcases hb with hb | rfl
    · exact ⟨(h2 b hb).1, (h2 b hb).2.1⟩
    · exact ⟨h.past, hg⟩
/-- .. with the element's box and the result's -/
structure TwR (w w0 W : World) (g i : Nat) (ks : List Tree) (es : Array Value) : Prop where
  tw : ∃ cur, TwAt w0 W (w.heap.size + 2) g i ks cur
  e : W.heap[w.heap.size]? = some (.cells es 24 (0, 0))
  r : W.heap[w.heap.size + 1]? = some (.cells elemZC 24 (0, 0))
  far : w.heap.size + 2 ≤ g
theorem TwR.later {w w0 W W' : World} {g i : Nat} {ks : List Tree} {es : Array Value} (h : TwR w w0 W g i ks es) (hb : Below W.heap.size W W') : TwR w w0 W' g i ks es := by
  obtain ⟨cur, hc⟩ := h.tw
  exact ⟨⟨cur, hc.later hb⟩, (hb.block _ (Array.getElem?_eq_some_iff.1 h.e).1).trans h.e, (hb.block _ (Array.getElem?_eq_some_iff.1 h.r).1).trans h.r, h.far⟩
theorem wp_store_partN {P : Program} {o : Oper} {a : Act} {w : World} {K : Act → World → Prop} {Q : Exit → Act → World → Prop} (ty : TypeId) (x y : Operand) (ho : o.op = .store ty x y)
    (g off : Nat) (vs : List Value) (hx : a.eval x = .pointer (some ⟨g, off, none⟩)) (hy : a.eval y = .agg vs.toArray)
    (t : TypeId) (old : Array Value) (hg : w.heap[g]? = some (.cells old t (0, 0))) (hoff : off + vs.length ≤ old.size) (hi : (P.info? ty).map (·.size) = some vs.length) (h1 : vs.all (·.oneCell') = true)
    (p : World → Prop) (hp : p (w.setRow g (partSet old off vs))) (h : ∀ W, p W → K (a.put o.dst undef) W) : o.wp P a w K Q := by
  unfold Oper.wp execOp
  simp only [ho, hx, hy, Instr.storeAt, Instr.sureAddr, Sem.run_bind, Sem.run_pure, Result.andThen_ok, run_storeVar_part w g off ty t old vs hg hoff hi h1]
  exact h _ hp
def TwinOut (t : Tree) (w : World) (e : Ending) (w' : World) : Prop := ∃ z, e = .returned (.agg #[.string t.name, .string t.text, z]) ∧ OwnT w' w.heap.size t z ∧ Below w.heap.size w w'
def TwinC (t : Tree) : Prop := ∀ (a : Option Addr) (c : Nat) (w : World), ElemIn w t a c → Calls Tryz.prog 34 #[.agg (elC t a c)] w (TwinOut t w)
set_option maxHeartbeats 4000000 in
set_option maxRecDepth 100000 in
theorem cloneE_empty (x : Addr) (c : Nat) (w : World) :
    Calls Tryz.prog 45 #[.slice (some x) 0 c] w fun e w' => ∃ v, e = .returned v ∧ w'.ownsRow w.heap.size 24 3 v 0 [] ∧ Below w.heap.size w w' := by
  have he := fun W => Lib.run_eql_slice_nil (P := Tryz.prog) W 22 24 (some x) 0 c 0 0 Tryz.underlying22
  go_enter Tryz.func45, Tryz.ntmps45
  go_wp2_with fail
  go_ret
  exact ⟨_, rfl, ⟨rfl, .inr ⟨w.heap.size, 0, #[], rfl, Nat.le_refl _, heap_alloc_new _ _, Nat.le_refl _, by simp [maxLen], rfl, rfl⟩⟩, below_alloc (Below.refl _ _) (Nat.le_refl _) _⟩
/-- a copy of the kids' row -/
theorem cloneK_any {ks : List Tree} {a : Option Addr} {c : Nat} {w0 w : World} (h : KidsIn w0 ks a 0) (hb : Below w0.heap.size w0 w) (hl : ks.length ≤ 2513169434843) :
    Calls Tryz.prog 45 #[.slice a ks.length c] w fun e w' => ∃ v news, e = .returned v ∧ w'.ownsRow w.heap.size 24 3 v ks.length news ∧ KidRow w0 ks news ∧ Below w.heap.size w w' := by
  obtain ⟨i0, hi0, hz0, hz1, hz2⟩ := info_elem
  cases a with
  | none =>
    have hk : ks = [] := by
      cases ks with
      | nil => rfl
      | cons k ks =>
        unfold KidsIn at h
        obtain ⟨⟨b, off, x, y, z, e, _⟩, _⟩ := h
        cases e
    subst hk
    refine (Tryz.slices_Clone_nil 0 c w).mono ?_
    rintro e w' ⟨rfl, rfl⟩
    exact ⟨_, [], rfl, World.ownsRow_nil _ _ _ _, ⟨rfl, fun j k h => by simp at h, fun u h => by cases h⟩, Below.refl _ _⟩
  | some ad =>
    cases ks with
    | nil =>
      refine (cloneE_empty ad c w).mono ?_
      rintro e w' ⟨v, rfl, h1, h2⟩
      exact ⟨v, [], rfl, h1, ⟨rfl, fun j k h => by simp at h, fun u h => by cases h⟩, h2⟩
    | cons k ks =>
      have h' := h
      unfold KidsIn at h'
      obtain ⟨⟨b, off, x, y, z, e, _⟩, _⟩ := h'
      injection e with e
      subst e
      obtain ⟨news, hr, hc⟩ := kid_row h
      refine (Tryz.slices_Clone i0 _ 3 56 hi0 hz0 hz1 hz2 rfl (by decide) Tryz.sizeOf24 b off (k :: ks).length c news w hr.len (by simp only [maxLen]; omega) (by omega) (fun j u hj => ?_) hr.one).mono ?_
      · have := hc j u hj
        rw [Nat.zero_mul, Nat.add_zero] at this
        exact cell_later hb this
      · rintro e w' ⟨v', rfl, h1, _, h3⟩
        exact ⟨v', news, rfl, h1, hr, h3⟩
theorem own_form' {w : World} {base : Nat} {e : TypeId} {sz : Nat} {v : Value} {n : Nat} {xs : List Value} (h : w.ownsRow base e sz v n xs) : ∃ a c, v = .slice a n c := by
  rcases h.2 with ⟨rfl, rfl⟩ | ⟨g, cap, cur, rfl, _⟩
  · exact ⟨none, 0, rfl⟩
  · exact ⟨_, cap, rfl⟩
theorem TwR.setE {w W : World} {g : Nat} {ks : List Tree} {es es' : Array Value} (h : TwR w w W g 0 ks es) {new : Array Value} (hn : new = es') : TwR w w (W.setRow w.heap.size new) g 0 ks es' := by
  subst hn
  obtain ⟨cur, hc⟩ := h.tw
  obtain ⟨ok, h1, h2⟩ := hc.done
  have hf := h.far
  refine ⟨⟨cur, below_one_row _ _ _ _ _ hc.below (Nat.le_refl _), hc.low, hc.past, (setRow_other _ _ _ _ (by omega)).trans hc.at_, hc.size, ⟨fun b => ok b ∧ b ≠ w.heap.size, ?_, fun b hb => ⟨(h2 b hb.1).1, by simpa using (h2 b hb.1).2.1, (h2 b hb.1).2.2⟩⟩, hc.rest⟩, setRow_heap _ _ _ _ _ _ h.e, (setRow_other _ _ _ _ (by omega)).trans h.r, h.far⟩
  simp only [List.take_zero, Nat.zero_mul, RowOf]
theorem TwR.put {w w0 W : World} {g i : Nat} {ks : List Tree} {es cur : Array Value} (h : TwR w w0 W g i ks es) (ht : TwAt w0 W (w.heap.size + 2) g i ks cur) {k : Tree} (hk : ks[i]? = some k) {z : Value} {base : Nat} (ho : OwnT W base k z) (hb : g < base) :
    TwR w w0 (W.setRow g (partSet cur (i * 3) [.string k.name, .string k.text, z])) g (i + 1) ks es :=
  ⟨⟨_, ht.put hk ho hb⟩, (setRow_other _ _ _ _ (by have := h.far; omega)).trans h.e, (setRow_other _ _ _ _ (by have := h.far; omega)).trans h.r, h.far⟩

set_option maxHeartbeats 8000000 in
set_option maxRecDepth 100000 in
theorem twin_any : ∀ t, TwinC t := by
  apply treeInd
  intro n t ks ih a c w hT
  obtain ⟨-, -, hn, ht, hkl, a0, c0, he, hK⟩ := hT.cells
  simp only [Tree.name, Tree.text, Tree.kids] at hn ht hkl he hK
  injection he with e1 _ e3
  subst e1 e3
  have HIH := Lib.hid ih
  have HOUT : Hid (∀ (W : World) (z : Value), OwnT W w.heap.size (.node n t ks) z → Below w.heap.size w W → TwinOut (.node n t ks) w (.returned (.agg #[.string n, .string t, z])) W) := fun W z h1 h2 => ⟨z, rfl, h1, h2⟩
  have HALL : Hid (∀ (W : World) (g cap : Nat), ∀ (W0 : World) (lo : Nat), (∃ cur, TwAt W0 W lo g ks.length ks cur) → OwnT W lo (.node n t ks) (.slice (some ⟨g, 0, none⟩) ks.length cap)) := fun W g cap W0 lo ⟨cur, h⟩ => TwAt.all (t := .node n t ks) h hn ht hkl
  simp only [elC, Tree.name, Tree.text, Tree.kids]
  obtain ⟨W0, hw0⟩ : ∃ W0, (w.alloc (.cells #[.string n, .string t, .slice a ks.length c] 24)).alloc (.cells elemZC 24) = W0 := ⟨_, rfl⟩
  have B0 : Below w.heap.size w W0 := by rw [← hw0]; exact below_alloc (below_alloc (Below.refl _ _) (Nat.le_refl _) _) (Nat.le_refl _) _
  have X0 : W0.heap[w.heap.size]? = some (.cells #[.string n, .string t, .slice a ks.length c] 24 (0, 0)) := by rw [← hw0]; exact heap_old _ (heap_alloc_new _ _)
  have Y0 : Hid (W0.heap[w.heap.size + 1]? = some (.cells elemZC 24 (0, 0))) := by show _ = _; rw [← hw0]; exact heap_at1 _ _ _
  have k2 : W0.cell? ⟨w.heap.size, 2, none⟩ = some (.slice a ks.length c) := cell_at X0 rfl
  have HX0 := Lib.hid X0
  have HB0 := Lib.hid B0
  have HCL := Lib.hid (cloneK_any (c := c) hK B0 hkl)
  have HKW := Lib.hid hK
  clear hT hK ih X0 B0
  unfold elemZC at hw0
  go_enter Tryz.func34, Tryz.ntmps34
  go_wp2_with fail
  clear hw0 k2
  refine HCL.out.mono ?_
  rintro e W1 ⟨v, news, rfl, hown, hkr, hb1⟩
  have HX1 : Hid (W1.heap[w.heap.size]? = some (.cells #[.string n, .string t, .slice a ks.length c] 24 (0, 0))) := (hb1.block _ (Array.getElem?_eq_some_iff.1 HX0.out).1).trans HX0.out
  have HY1 : Hid (W1.heap[w.heap.size + 1]? = some (.cells elemZC 24 (0, 0))) := (hb1.block _ (Array.getElem?_eq_some_iff.1 Y0.out).1).trans Y0.out
  have HB1 := Lib.hid (HB0.out.trans (hb1.mono HB0.out.size))
  have hz0 : w.heap.size + 2 ≤ W0.heap.size := (Array.getElem?_eq_some_iff.1 Y0.out).1
  by_cases hks : ks = []
  · subst hks
    obtain ⟨av, cv, rfl⟩ := own_form' hown
    clear hown hkr hb1 HCL HIH HALL
    go_upto_region 2 with (refine wpList_store_cellN (by rfl) 22 _ _ (by rfl) w.heap.size 2 (.slice av 0 cv) (by rfl) (by rfl) (by rfl) 24 _ (by exact HX1.out) (by exact Nat.le_of_ble_eq_true rfl) (by kernel_rfl) (fun W => W.heap[w.heap.size]? = some (.cells #[.string n, .string t, .slice av 0 cv] 24 (0, 0)) ∧ W.heap[w.heap.size + 1]? = some (.cells elemZC 24 (0, 0)) ∧ Below w.heap.size w W) (by exact ⟨setRow_heap _ _ _ _ _ _ HX1.out, (setRow_other _ _ _ _ (by omega)).trans HY1.out, below_one_row _ _ _ _ _ HB1.out (Nat.le_refl _)⟩) ?_; rintro W2 h2)
    have H2 := Lib.hid h2
    have k2 : W2.cell? ⟨w.heap.size, 2, none⟩ = some (.slice av 0 cv) := cell_at h2.1 rfl
    clear h2
    go_wp2_with fail
    go_loopg [12] 0 (fun gg s12 wr => s12 = .int .i64 0 ∧ wr = W2)
    case atStart => exact ⟨rfl, rfl⟩
    case round =>
      obtain ⟨rfl, rfl⟩ := hrel
      go_wp2_with (first
        | (refine wpList_load_row (by rfl) 24 _ (by rfl) w.heap.size (by rfl) 24 #[.string n, .string t, .slice av 0 cv] (0, 0) _ (by exact H2.out.1) Tryz.underlying24 rfl (by kernel_rfl) ?_)
        | (refine wpList_store_row (by rfl) 24 _ _ (by rfl) (w.heap.size + 1) #[.string n, .string t, .slice av 0 cv] (by rfl) (by rfl) 24 elemZC (by exact H2.out.2.1) (by kernel_rfl) (by rfl) (by kernel_rfl) ?_))
      refine bodyPost_ret (results_cell_row rfl _ _ (w.heap.size + 1) 24 _ _ _ rfl (setRow_heap _ _ _ _ _ _ H2.out.2.1) Tryz.underlying24 rfl (by kernel_rfl)) rfl ?_
      refine HOUT.out _ _ ⟨fun _ => False, ?_, fun b h => h.elim⟩ (below_one_row _ _ _ _ _ H2.out.2.2 (by omega))
      unfold TreeOn
      exact ⟨rfl, rfl, hn, ht, hkl, av, cv, rfl, by unfold KidsOn; trivial⟩
  · have hpos : 0 < ks.length := List.length_pos_iff.2 hks
    obtain ⟨g, cap, cur, hv, hg, hat, hcs⟩ : ∃ (g cap : Nat) (cur : Array Value), v = .slice (some ⟨g, 0, none⟩) ks.length cap ∧ W0.heap.size ≤ g ∧ W1.heap[g]? = some (.cells cur 24 (0, 0)) ∧ ks.length * 3 ≤ cur.size ∧ cur.toList.take (ks.length * 3) = news := by
      rcases hown.2 with ⟨_, h0⟩ | ⟨g, cap, cur, h1, h2, h3, h4, _, h6, h7⟩
      · omega
      · exact ⟨g, cap, cur, h1, h2, h3, by rw [h6]; exact Nat.mul_le_mul_right _ h4, h7⟩
    subst hv
    have HT1 : Hid (TwR w w W1 g 0 ks #[.string n, .string t, .slice a ks.length c]) := by
      refine ⟨⟨cur, HB1.out, by omega, by omega, hat, hcs.1, ⟨fun _ => False, by simp [RowOf], fun b h => h.elim⟩, fun j k _ hk => ?_⟩, HX1.out, HY1.out, by omega⟩
      obtain ⟨a', c', q1, q2, q3, q4⟩ := hkr.at_ j k hk
      have hc : ∀ (x : Nat) (u : Value), news[x]? = some u → cur[x]? = some u := fun x u hu => by
        rw [← hcs.2, List.getElem?_take] at hu
        split at hu
        · rw [Array.getElem?_toList] at hu; exact hu
        · cases hu
      exact ⟨a', c', hc _ _ q1, hc _ _ q2, hc _ _ q3, q4⟩
    have hgg : w.heap.size + 2 ≤ g := by omega
    clear hown hkr hb1 HCL HKW hat hcs
    go_upto_region 2 with (refine wpList_store_cellN (by rfl) 22 _ _ (by rfl) w.heap.size 2 (.slice (some ⟨g, 0, none⟩) ks.length cap) (by rfl) (by rfl) (by rfl) 24 _ (by exact HX1.out) (by exact Nat.le_of_ble_eq_true rfl) (by kernel_rfl) (fun W => TwR w w W g 0 ks #[.string n, .string t, .slice (some ⟨g, 0, none⟩) ks.length cap]) (by exact HT1.out.setE (by rfl)) ?_; clear HT1 HX1 HY1; rintro W2 h2)
    have H2 := Lib.hid h2
    have k2 : W2.cell? ⟨w.heap.size, 2, none⟩ = some (.slice (some ⟨g, 0, none⟩) ks.length cap) := cell_at h2.e rfl
    clear h2
    go_wp2_with fail
    clear k2
    go_loopg [12] ks.length (fun gg s12 wr => ∃ i : Nat, i ≤ ks.length ∧ ks.length - i ≤ gg ∧ s12 = .int .i64 i ∧ Hid (TwR w w wr g i ks #[.string n, .string t, .slice (some ⟨g, 0, none⟩) ks.length cap]))
    case atStart => exact ⟨0, Nat.zero_le _, by omega, rfl, H2.out⟩
    case round =>
      obtain ⟨i, hi, hgm, rfl, HR⟩ := hrel
      by_cases hlt : i < ks.length
      · have hiz : (i : Int) < (ks.length : Int) := by omega
        obtain ⟨k, hik⟩ : ∃ k, ks[i]? = some k := ⟨_, List.getElem?_eq_getElem hlt⟩
        obtain ⟨cur, hc⟩ := HR.out.tw
        obtain ⟨a2, c2, q1, q2, q3, q4⟩ := hc.rest i k (Nat.le_refl _) hik
        have HIK := Lib.hid hik
        have HKC : Hid (wr.rangeAt g (i * 3) [.string k.name, .string k.text, .slice a2 k.kids.length c2]) := range_of_heap hc.at_ fun j u hu => by
          rcases j with _ | _ | _ | j
          · injection hu with hu; subst hu; exact q1
          · injection hu with hu; subst hu; exact q2
          · injection hu with hu; subst hu; exact q3
          · simp at hu
        have HEK := Lib.hid (ElemIn.later q4 hc.below)
        have HTK := Lib.hid (HIH.out k (List.mem_of_getElem? hik))
        clear q1 q2 q3 q4 hc hik
        go_upto_region 5 with (first
          | (refine wpList_load_mid (by rfl) 24 _ (by rfl) g (i * 3) (by rfl) [.string k.name, .string k.text, .slice a2 k.kids.length c2] _ HKC.out Tryz.underlying24 rfl (by kernel_rfl) ?_)
          | (refine wpList_store_rowN (by rfl) 24 _ _ (by rfl) wr.heap.size (elC k a2 c2) (by rfl) (by rfl) 24 elemZC (by exact heap_alloc_new _ _) (by kernel_rfl) (by rfl) (by kernel_rfl) (fun W => W.heap[wr.heap.size]? = some (.cells (elC k a2 c2) 24 (0, 0)) ∧ Below wr.heap.size wr W) (by rw [setRow_alloc _ _ _ _ _ rfl]; exact ⟨heap_alloc_new _ _, below_alloc (Below.refl _ _) (Nat.le_refl _) _⟩) ?_; rintro W3 h3))
        have HR3 := Lib.hid (HR.out.later h3.2)
        have HE3 := Lib.hid (HEK.out.later h3.2)
        have hg3 : g < W3.heap.size := by obtain ⟨cur, hc⟩ := HR3.out.tw; exact (Array.getElem?_eq_some_iff.1 hc.at_).1
        have k2 : W3.cell? ⟨w.heap.size, 2, none⟩ = some (.slice (some ⟨g, 0, none⟩) ks.length cap) := cell_at HR3.out.e rfl
        have HB3 : Hid (W3.rangeAt wr.heap.size 0 [.string k.name, .string k.text, .slice a2 k.kids.length c2]) := range_of_heap h3.1 fun j u hu => by rw [Nat.zero_add]; simpa [elC] using hu
        generalize wr.heap.size = g4 at *
        clear h3 HKC HR HEK
        try simp only [Act.put]
        refine wp_region_heldL_drew (S := (fun W : World => Below W3.heap.size W3 W)) 6 (by kernel_rfl) (Below.refl _ _).drew (fun hS0 => ?_)
        refine wpAnyL_take (i := 0) (oi := { dst := some 17, op := _, type := _, pos := _, after := _, guard := _ }) (v := ?_) rfl (by kernel_rfl) (by kernel_rfl) (by kernel_rfl) (by kernel_rfl) (fun _ _ _ h => h) (Or.inl ⟨by kernel_rfl, ?_⟩) (by assumption) ?_
        rotate_left
        · (intro w hSw; (try dsimp only at hSw); go_simp); all_goals (with_reducible rfl)
        try simp only [Act.put, List.setIfInBounds_toArray, List.set_cons_zero, List.set_cons_succ]
        refine wpAnyL_take (i := 1) (oi := { dst := some 18, op := _, type := _, pos := _, after := _, guard := _ }) (v := ?_) rfl (by kernel_rfl) (by kernel_rfl) (by kernel_rfl) (by kernel_rfl) (fun _ _ _ h => h) (Or.inl ⟨by kernel_rfl, ?_⟩) (by assumption) ?_
        rotate_left
        · (intro w hSw; (try dsimp only at hSw); have j2 := cell_later hSw k2; go_simp); all_goals (with_reducible rfl)
        try simp only [Act.put, List.setIfInBounds_toArray, List.set_cons_zero, List.set_cons_succ]
        refine wpAnyL_take (i := 2) (oi := { dst := some 19, op := _, type := _, pos := _, after := _, guard := _ }) (v := ?_) rfl (by kernel_rfl) (by kernel_rfl) (by kernel_rfl) (by kernel_rfl) (fun _ _ _ h => h) (Or.inl ⟨by kernel_rfl, ?_⟩) (by assumption) ?_
        rotate_left
        · (intro w hSw; (try dsimp only at hSw); go_simp); all_goals (with_reducible rfl)
        try simp only [Act.put, List.setIfInBounds_toArray, List.set_cons_zero, List.set_cons_succ]
        refine wpAnyL_take (i := 3) (oi := { dst := some 20, op := _, type := _, pos := _, after := _, guard := _ }) (v := .agg (elC k a2 c2)) rfl (by kernel_rfl) (by kernel_rfl) (by kernel_rfl) (by kernel_rfl) (fun _ _ _ h => h) (yieldsIf_load_mid (by kernel_rfl) 24 _ (by rfl) g4 0 (by rfl) [.string k.name, .string k.text, .slice a2 k.kids.length c2] _ (fun w hSw => by (try dsimp only at hSw); exact fun j u hj => cell_later hSw (HB3.out j u hj)) Tryz.underlying24 rfl (by kernel_rfl)) (by assumption) ?_
        try simp only [Act.put, List.setIfInBounds_toArray, List.set_cons_zero, List.set_cons_succ]
        refine wpAnyL_ready (rs := [4]) (by kernel_rfl) (by simp) ?_
        refine (AllReadyL.cons (o := { dst := some 21, op := _, type := _, pos := _, after := _, guard := _ }) rfl (fun K hK => ?_) AllReadyL.nil)
        rw [if_pos (by kernel_rfl)]
        refine wp_call_go Tryz.func34 (by kernel_rfl) (by kernel_rfl) (xs := [.tmp 20]) (by rfl) (vs := [.agg (elC k a2 c2)]) (HTK.out a2 c2 _ (HE3.out.later hS0)) (by rfl) ?_
        rintro e w' ⟨z, rfl, hz, hb⟩
        obtain ⟨az, cz, rfl, -⟩ := hz.form
        have HZ := Lib.hid (hz.base hS0.size)
        clear hz
        refine ⟨_, rfl, ?_⟩
        refine hK.out _ w' (hS0.trans (hb.mono hS0.size)) (fun hSe => ?_)
        clear hK K
        try simp only [Act.put, List.setIfInBounds_toArray, List.set_cons_zero, List.set_cons_succ]
        refine wpAnyL_take (i := 5) (oi := { dst := some 22, op := _, type := _, pos := _, after := _, guard := _ }) (v := ?_) rfl (by kernel_rfl) (by kernel_rfl) (by kernel_rfl) (by kernel_rfl) (fun _ _ _ h => h) (Or.inl ⟨by kernel_rfl, ?_⟩) (by assumption) ?_
        rotate_left
        · (intro w hSw; (try dsimp only at hSw); go_simp); all_goals (with_reducible rfl)
        try simp only [Act.put, List.setIfInBounds_toArray, List.set_cons_zero, List.set_cons_succ]
        refine wpAnyL_ready (rs := [6]) (by kernel_rfl) (by simp) ?_
        refine (AllReadyL.final (o := { dst := none, op := _, type := _, pos := _, after := _, guard := _ }) rfl (fun K hK => ?_))
        rw [if_pos (by kernel_rfl)]
        obtain ⟨cur, hc⟩ := (HR3.out.later hSe).tw
        have hsz : i * 3 + 3 ≤ cur.size := by have := hc.size; omega
        refine wp_store_partN 24 _ _ (by rfl) g (i * 3) [.string k.name, .string k.text, .slice az k.kids.length cz] (by rfl) (by rfl) 24 cur hc.at_ hsz (by kernel_rfl) (by rfl) (fun W => TwR w w W g (i + 1) ks #[.string n, .string t, .slice (some ⟨g, 0, none⟩) ks.length cap]) ((HR3.out.later hSe).put hc HIK.out HZ.out hg3) ?_
        intro W5 h5
        refine hK.out _ _ ?_
        clear hK K
        try simp only [Act.put]
        refine wpAnyL_done (by kernel_rfl) ?_ _
        have HR5 := Lib.hid h5
        clear h5 hc k2
        go_wp2_with fail
        go_roundg (ks.length - (i + 1))
        case measure => omega
        case rel => exact ⟨i + 1, by omega, Nat.le_refl _, by go_num, HR5.out⟩
      · obtain rfl : i = ks.length := by omega
        have HO := Lib.hid (HALL.out wr g cap w _ HR.out.tw)
        have HBW : Hid (Below w.heap.size w wr) := by
          obtain ⟨cur, hc⟩ := HR.out.tw
          exact hc.below
        go_wp2_with (first
          | (refine wpList_load_row (by rfl) 24 _ (by rfl) w.heap.size (by rfl) 24 #[.string n, .string t, .slice (some ⟨g, 0, none⟩) ks.length cap] (0, 0) _ (by exact HR.out.e) Tryz.underlying24 rfl (by kernel_rfl) ?_)
          | (refine wpList_store_row (by rfl) 24 _ _ (by rfl) (w.heap.size + 1) #[.string n, .string t, .slice (some ⟨g, 0, none⟩) ks.length cap] (by rfl) (by rfl) 24 elemZC (by exact HR.out.r) (by kernel_rfl) (by rfl) (by kernel_rfl) ?_))
        refine bodyPost_ret (results_cell_row rfl _ _ (w.heap.size + 1) 24 _ _ _ rfl (setRow_heap _ _ _ _ _ _ HR.out.r) Tryz.underlying24 rfl (by kernel_rfl)) rfl ?_
        refine HOUT.out _ _ ?_ (below_one_row _ _ _ _ _ HBW.out (by omega))
        exact (HO.out.kept (fun b h1 h2 => setRow_other _ _ _ _ (by omega)) (by simp)).base (by omega)
end Go.Proofs.YtgmgghbocidibaaGreatDoor
