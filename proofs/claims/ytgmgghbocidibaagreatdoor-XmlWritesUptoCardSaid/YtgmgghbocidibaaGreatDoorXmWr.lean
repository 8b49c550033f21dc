/-
  xml.write: an element, written behind what was there. (Printed by wip/gen/xmwr.py.)
-/
import Derived.Test.YtgmgghbocidibaaGreatDoorSm33
import Derived.Test.YtgmgghbocidibaaGreatDoorSm4
namespace Go.Proofs.YtgmgghbocidibaaGreatDoor
open Go.RowKit Go.Lib Go.PlainAid

/-- a row of bytes of the call's own, or one that is full (what []byte("..") makes) -/
inductive OwnX (w : World) (base : Nat) (v : Value) (l : Bs) : Prop
  | own (h : w.ownsRow base 5 1 v l.length (Lib.byteCells l))
  | full (g : Nat) (fz : Nat × Nat) (hv : v = .slice (some ⟨g, 0, none⟩) l.length l.length) (hb : base ≤ g) (hg : w.heap[g]? = some (.cells (Lib.byteCells l).toArray 5 fz))
theorem OwnX.lt {w : World} {base : Nat} {v : Value} {l : Bs} (h : OwnX w base v l) : ∀ k, v.ownBlock = some k → base ≤ k ∧ k < w.heap.size := by
  intro k hk
  cases h with
  | own h => exact h.lt k hk
  | full g fz hv hb hg =>
    rw [hv] at hk
    injection hk with hk
    simp only at hk
    subst hk
    exact ⟨hb, (Array.getElem?_eq_some_iff.1 hg).1⟩
theorem OwnX.keep {w w' : World} {base : Nat} {v : Value} {l : Bs} (h : OwnX w base v l) (hk : ∀ k, v.ownBlock = some k → w'.heap[k]? = w.heap[k]?) : OwnX w' base v l := by
  cases h with
  | own h => exact .own (own_keep h hk)
  | full g fz hv hb hg => exact .full g fz hv hb ((hk g (by rw [hv]; rfl)).trans hg)
theorem OwnX.form {w : World} {base : Nat} {v : Value} {l : Bs} (h : OwnX w base v l) : ∃ p c, v = .slice p l.length c := by
  cases h with
  | own h =>
    rcases h.2 with ⟨h1, h2⟩ | ⟨g, cap, cur, h1, _⟩
    · exact ⟨none, 0, by rw [h1, h2]⟩
    · exact ⟨_, _, h1⟩
  | full g fz hv hb hg => exact ⟨_, _, hv⟩
theorem OwnX.not_elem {w : World} {base g : Nat} {v : Value} {l : Bs} {cs : Array Value} (h : OwnX w base v l) (hg : w.heap[g]? = some (.cells cs 24 (0, 0))) : v.ownBlock ≠ some g := by
  cases h with
  | own h => exact fun e => isE_not_buf h ⟨cs, hg⟩ e.symm
  | full q fz hv hb hq =>
    intro e
    rw [hv] at e
    injection e with e
    simp only at e
    subst e
    rw [hq] at hg
    injection hg with hg
    injection hg with _ hg _
    exact absurd hg (by decide)
/-- the row is the old one, or new -/
def Next (w : World) (v v' : Value) : Prop := v'.ownBlock = v.ownBlock ∨ ∀ g, v'.ownBlock = some g → w.heap.size ≤ g
theorem run_append_x (w : World) (ty : TypeId) (base : Nat) (v : Value) (l s : Bs) (h : OwnX w base v l) (hs : s ≠ []) (hl : l.length + s.length ≤ 140737488355328) (hbase : base ≤ w.heap.size) :
    ∃ v' w', (Builtin.append_ #[51, 9] ty #[v, .string ⟨s.toArray⟩]).run Tryz.prog w = .ok v' w' ∧ OwnX w' base v' (l ++ s) ∧ w.grownBy w' v.ownBlock ∧ Next w v v' := by
  obtain ⟨i0, hi, hz0, hz1, hz2⟩ := info_byte
  have e1 : Lib.byteCells l ++ Lib.strCells ⟨s.toArray⟩ = Lib.byteCells (l ++ s) := by simp [Lib.byteCells, Lib.strCells]
  have e2 : (⟨s.toArray⟩ : ByteArray).size = s.length := by simp [ByteArray.size]
  have h63 : l.length + (⟨s.toArray⟩ : ByteArray).size ≤ maxLen := by rw [e2]; unfold maxLen; omega
  cases h with
  | own h =>
    obtain ⟨v', w', hr, h2, h3, h4⟩ := run_append_string_at (P := Tryz.prog) w base 51 9 ty 5 i0 Tryz.underlying51 Tryz.underlying9 hi hz0 hz1 hz2 v l.length _ h ⟨s.toArray⟩ h63 (by rw [e2]; exact hl) hbase
    rw [e1, e2, ← List.length_append] at h2
    exact ⟨v', w', hr, .own h2, h3, h4⟩
  | full g fz hv hb hg =>
    subst hv
    have hr := run_append_grow_string (P := Tryz.prog) w 51 9 ty 5 i0 (.int .u8 0) Tryz.underlying51 Tryz.underlying9 hi hz0 ⟨g, 0, none⟩ l.length l.length (Lib.byteCells l) (by rw [hz1]; simp [Lib.byteCells])
      (fun j u hj => by rw [Addr.add_lit, Nat.zero_add, cell_of_row w g j _ 5 fz hg]; simpa using hj) ⟨s.toArray⟩ (by rw [e2]; have := List.length_pos_iff.2 hs; omega) (by rw [e2]; omega) (by rw [hz2]; exact growslice_fits (by rw [e2]; have := List.length_pos_iff.2 hs; omega) (by rw [e2]; omega))
    refine ⟨_, _, hr, .own ?_, ⟨rfl, rfl, rfl, by simp, fun k hk _ => heap_alloc_old w.drew _ hk⟩, .inr fun k hk => ?_⟩
    · have hge := grownCap_ge w (l.length + (⟨s.toArray⟩ : ByteArray).size) l.length 5
      have hcm := grownCap_le_maxLen w (l.length + (⟨s.toArray⟩ : ByteArray).size) l.length 5 h63
      rw [e2] at hge hcm ⊢
      rw [List.length_append]
      refine ⟨by simp [Lib.byteCells], .inr ⟨w.heap.size, _, _, rfl, hbase, heap_alloc_new w.drew _, hge, hcm, ?_, ?_⟩⟩
      · have hz : (Value.int IntKind.u8 0).cells.size = 1 := rfl
        simp only [Array.size_append, List.size_toArray, size_zeroCells, hz, strCells_length, e2]
        simp [Lib.byteCells]
        omega
      · simp only [Array.toList_append]
        rw [← Array.toList_append, List.append_toArray, e1]
        refine List.take_append_of_le_length (by simp [Lib.byteCells]) |>.trans (List.take_of_length_le (by simp [Lib.byteCells]))
    · injection hk with hk
      simp only at hk
      omega
theorem wp_append_x {w : World} {o : Oper} {a : Act} {K : Act → World → Prop} {Q : Exit → Act → World → Prop} {sl x : Operand} (ho : o.op = .call { callee := .builtin .append, args := #[sl, x], argTypes := #[51, 9] })
    {base : Nat} {v : Value} {l : Bs} (hv : a.eval sl = v) (h : OwnX w base v l) (s : Bs) (hx : a.eval x = .string ⟨s.toArray⟩) (hs : s ≠ []) (hl : l.length + s.length ≤ 140737488355328) (hbase : base ≤ w.heap.size)
    (hk : ∀ v' w', OwnX w' base v' (l ++ s) → w.grownBy w' v.ownBlock → Next w v v' → K (a.put o.dst v') w') : o.wp Tryz.prog a w K Q := by
  obtain ⟨v', w', hr, h2, h3, h4⟩ := run_append_x w o.type base v l s h hs hl hbase
  unfold Oper.wp execOp
  simp only [ho, resolve, invoke, builtin, Sem.run_bind, Sem.run_pure, Result.andThen_ok, List.map_toArray, List.map_cons, List.map_nil, hv, hx, hr]
  exact hk v' w' h2 h3 h4
theorem wpList_append_x {ops : Array Oper} {rest : List Oper} {w : World} {o : Oper} {a : Act} {Q : Exit → Act → World → Prop} (hgd : o.guard = none) {sl x : Operand} (ho : o.op = .call { callee := .builtin .append, args := #[sl, x], argTypes := #[51, 9] })
    {base : Nat} {v : Value} {l : Bs} (hv : a.eval sl = v) (h : OwnX w base v l) (s : Bs) (hx : a.eval x = .string ⟨s.toArray⟩) (hs : s ≠ []) (hl : l.length + s.length ≤ 140737488355328) (hbase : base ≤ w.heap.size)
    (hk : ∀ v' w', OwnX w' base v' (l ++ s) → w.grownBy w' v.ownBlock → Next w v v' → wpList Tryz.prog ops Q rest (a.put o.dst v') w') : wpList Tryz.prog ops Q (o :: rest) a w :=
  wpList_plain hgd fun _ hK => wp_append_x ho hv h s hx hs hl hbase fun v' w' h1 h2 h3 => hK _ _ (hk v' w' h1 h2 h3)

theorem Bsr.narrow {w : World} {Rb : Nat} {K : Nat → Prop} (h : Bsr w Rb K) : Bsr w Rb (fun k => K k ∧ k < w.heap.size) := by
  refine ⟨h.no, fun x hx => ?_, ?_, h.own, ?_⟩
  · obtain ⟨q, c, h1, h2, h3⟩ := h.yes x hx
    refine ⟨q, c, h1, ⟨h2, ?_⟩, h3⟩
    have hne : 0 < (escB x).length := by
      unfold escB
      repeat' split
      all_goals first | decide | (simp; done)
    exact World.block_lt_of_cell? _ _ (h3 0 _ (List.getElem?_eq_getElem hne))
  · obtain ⟨q, c, h1, h2, h3⟩ := h.rep
    exact ⟨q, c, h1, ⟨h2, World.block_lt_of_cell? _ _ (h3 0 13 rfl)⟩, h3⟩
  · obtain ⟨q, c, h1, _, h3⟩ := h.rep
    exact World.block_lt_of_cell? _ _ h1
theorem RepAt.narrow {w : World} {R : Nat} {K : Nat → Prop} (h : RepAt w R K) : RepAt w R (fun k => K k ∧ k < w.heap.size) := by
  cases h with
  | fresh g cp sm h hc hgR hR hg => exact .fresh g cp sm h hc hgR ⟨hR, (Array.getElem?_eq_some_iff.1 h).1⟩ ⟨hg, World.block_lt_of_cell? _ _ (hc 0 _ rfl)⟩
  | built Rb sm h hb hR => exact .built Rb sm h hb.narrow ⟨hR, (Array.getElem?_eq_some_iff.1 h).1⟩
theorem RepAt.own {w : World} {R : Nat} {K : Nat → Prop} (h : RepAt w R K) : K R := by
  cases h with
  | fresh g cp sm h hc hgR hR hg => exact hR
  | built Rb sm h hb hR => exact hR

/-- the row that is written to, and the replacer -/
structure WrAt (w0 w : World) (R : Nat) (v : Value) (l : Bs) : Prop where
  below : Below w0.heap.size w0 w
  own : OwnX w w0.heap.size v l
  rep : ∃ K, RepAt w R K ∧ (∀ k, K k → k < w.heap.size) ∧ (∀ g, v.ownBlock = some g → ¬ K g)
  hR : w0.heap.size ≤ R
theorem WrAt.lt {w0 w : World} {R : Nat} {v : Value} {l : Bs} (h : WrAt w0 w R v l) : R < w.heap.size := by
  obtain ⟨K, h1, h2, _⟩ := h.rep
  exact h2 R h1.own
theorem WrAt.later {w0 w w' : World} {R : Nat} {v : Value} {l : Bs} (h : WrAt w0 w R v l) (hb : Below w.heap.size w w') : WrAt w0 w' R v l := by
  obtain ⟨K, h1, h2, h3⟩ := h.rep
  exact ⟨h.below.trans (hb.mono h.below.size), h.own.keep fun k hk => hb.block k (h.own.lt k hk).2, ⟨K, h1.kept fun k hk _ => hb.block k hk, fun k hk => Nat.lt_of_lt_of_le (h2 k hk) hb.size, h3⟩, h.hR⟩
theorem WrAt.form {w0 w : World} {R : Nat} {v : Value} {l : Bs} (h : WrAt w0 w R v l) : ∃ p c, v = .slice p l.length c := h.own.form
theorem str2 (x y : Bs) : (⟨x.toArray⟩ ++ ⟨y.toArray⟩ : ByteArray) = ⟨(x ++ y).toArray⟩ := by
  apply ByteArray.ext
  simp [ByteArray.data_append]
theorem str3 (x y z : Bs) : (⟨x.toArray⟩ ++ ⟨y.toArray⟩ ++ ⟨z.toArray⟩ : ByteArray) = ⟨(x ++ y ++ z).toArray⟩ := by rw [str2, str2]
theorem str4 (x y z u : Bs) : (⟨x.toArray⟩ ++ ⟨y.toArray⟩ ++ ⟨z.toArray⟩ ++ ⟨u.toArray⟩ : ByteArray) = ⟨(x ++ y ++ z ++ u).toArray⟩ := by rw [str3, str2]
/-- what may have been written to -/
def WrM (R : Nat) (v : Value) (k : Nat) : Prop := k = R ∨ some k = v.ownBlock
theorem Chg.trans' {a b c : World} {M N : Nat → Prop} (h : Chg a b M) (k : Chg b c N) (hm : ∀ i, i < a.heap.size → N i → M i) : Chg a c M :=
  ⟨k.os.trans h.os, k.tape.trans h.tape, k.output.trans h.output, Nat.le_trans h.size k.size, fun i hi hn => (k.block i (Nat.lt_of_lt_of_le hi h.size) (fun x => hn (hm i hi x))).trans (h.block i hi hn)⟩
/-- in the midst of write -/
structure WrIn (w0 w W : World) (R : Nat) (v0 v : Value) (l : Bs) (es : Array Value) : Prop where
  at_ : WrAt w0 W R v l
  box : W.heap[w.heap.size]? = some (.cells es 24 (0, 0))
  chg : Chg w W (WrM R v0)
  next : Next w v0 v
  far : R < w.heap.size
theorem WrIn.later {w0 w W W' : World} {R : Nat} {v0 v : Value} {l : Bs} {es : Array Value} (h : WrIn w0 w W R v0 v l es) (hb : Below W.heap.size W W') : WrIn w0 w W' R v0 v l es :=
  ⟨h.at_.later hb, (hb.block _ (Array.getElem?_eq_some_iff.1 h.box).1).trans h.box, h.chg.below_on hb, h.next, h.far⟩
/-- a change of what may be written to -/
theorem WrIn.on {w0 w W W' : World} {R : Nat} {v0 v v' : Value} {l l' : Bs} {es : Array Value} (h : WrIn w0 w W R v0 v l es) (ha : WrAt w0 W' R v' l') (hc : Chg W W' (WrM R v)) (hn : Next W v v') : WrIn w0 w W' R v0 v' l' es := by
  refine ⟨ha, (hc.block _ (Array.getElem?_eq_some_iff.1 h.box).1 ?_).trans h.box, h.chg.trans' hc ?_, ?_, h.far⟩
  · rintro (e | e)
    · have := h.far; omega
    · exact h.at_.own.not_elem h.box e.symm
  · rintro k hk (e | e)
    · exact .inl e
    · rcases h.next with e2 | e2
      · exact .inr (e.trans e2)
      · have := e2 k e.symm; omega
  · have hs := h.chg.size
    rcases hn with e | e
    · rcases h.next with e2 | e2
      · exact .inl (e.trans e2)
      · exact .inr fun g hg => e2 g (e ▸ hg)
    · exact .inr fun g hg => Nat.le_trans hs (e g hg)
theorem WrIn.replaced {w0 w W W' : World} {R : Nat} {v0 v : Value} {l : Bs} {es : Array Value} (h : WrIn w0 w W R v0 v l es) {K : Nat → Prop} (hk : ∀ k, K k → k < W.heap.size) (hv : ∀ g, v.ownBlock = some g → ¬ K g) (hr : RepAt W' R (fun k => K k ∨ W.heap.size ≤ k)) (hc : Chg W W' (fun k => k = R)) : WrIn w0 w W' R v0 v l es := by
  have hvR : v.ownBlock ≠ some R := by
    obtain ⟨K', h1, _, h3⟩ := h.at_.rep
    exact fun e => h3 R e h1.own
  refine h.on ⟨h.at_.below.trans (hc.below h.at_.below.size fun k e => by rw [e]; exact h.at_.hR), h.at_.own.keep fun k hk => hc.block k (h.at_.own.lt k hk).2 (fun e => hvR (by rw [hk, e])), ⟨_, hr.narrow, fun k hk => hk.2, fun g hg hK => ?_⟩, h.at_.hR⟩ (hc.mono fun k _ e => .inl e) (.inl rfl)
  rcases hK.1 with h1 | h1
  · exact hv g hg h1
  · have := (h.at_.own.lt g hg).2; omega
theorem WrIn.app {w0 w W W' : World} {R : Nat} {v0 v v' : Value} {l s : Bs} {es : Array Value} (h : WrIn w0 w W R v0 v l es) (ho : OwnX W' w0.heap.size v' (l ++ s)) (hg : W.grownBy W' v.ownBlock) (hn : Next W v v') : WrIn w0 w W' R v0 v' (l ++ s) es := by
  have hc : Chg W W' (fun k => some k = v.ownBlock) := Chg.grown hg
  obtain ⟨K, h1, h2, h3⟩ := h.at_.rep
  refine h.on ⟨h.at_.below.trans (hc.below h.at_.below.size fun k e => (h.at_.own.lt k e.symm).1), ho, ⟨K, h1.kept fun k hk hK => hc.block k hk fun e => h3 k e.symm hK, fun k hk => Nat.lt_of_lt_of_le (h2 k hk) hc.size, fun g hg => ?_⟩, h.at_.hR⟩ (hc.mono fun k _ e => .inr e) hn
  rcases hn with e | e
  · exact h3 g (e ▸ hg)
  · exact fun hK => by have := h2 g hK; have := e g hg; omega
/-- how write ends -/
def WrOut (w0 w : World) (R : Nat) (v : Value) (l : Bs) (e : Ending) (w' : World) : Prop := ∃ v', e = .returned v' ∧ WrAt w0 w' R v' l ∧ Chg w w' (WrM R v) ∧ Next w v v'
theorem WrIn.out {w0 w W : World} {R : Nat} {v0 v : Value} {l : Bs} {es : Array Value} (h : WrIn w0 w W R v0 v l es) : WrOut w0 w R v0 l (.returned v) W := ⟨v, rfl, h.at_, h.chg, h.next⟩
theorem WrIn.called {w0 w W W' : World} {R : Nat} {v0 v : Value} {l l' : Bs} {es : Array Value} (h : WrIn w0 w W R v0 v l es) {e : Ending} (ho : WrOut w0 W R v l' e W') : ∃ v', e = .returned v' ∧ WrIn w0 w W' R v0 v' l' es := by
  obtain ⟨v', rfl, h1, h2, h3⟩ := ho
  exact ⟨v', rfl, h.on h1 h2 h3⟩
def WriteC (t : Tree) : Prop := ∀ (w0 w : World) (R : Nat) (v : Value) (l : Bs) (a : Option Addr) (c : Nat), ElemIn w0 t a c → SmT t → l.length + (writeL t).length ≤ 70368744177664 → WrAt w0 w R v l →
  Calls Tryz.prog 24 #[v, .agg (elC t a c), .pointer (some ⟨R, 0, none⟩)] w (WrOut w0 w R v (wrT t l))
theorem wrKs_at {ks : List Tree} {i : Nat} {k : Tree} (h : ks[i]? = some k) (l : Bs) : wrKs (ks.drop i) l = wrKs (ks.drop (i + 1)) (wrT k l) := by
  have hlt := (List.getElem?_eq_some_iff.1 h).1
  rw [List.drop_eq_getElem_cons hlt, (List.getElem?_eq_some_iff.1 h).2]
  rfl
theorem writeKids_at {ks : List Tree} {i : Nat} {k : Tree} (h : ks[i]? = some k) : (writeKids (ks.drop i)).length = (writeL k).length + (writeKids (ks.drop (i + 1))).length := by
  have hlt := (List.getElem?_eq_some_iff.1 h).1
  rw [List.drop_eq_getElem_cons hlt, (List.getElem?_eq_some_iff.1 h).2, writeKids, List.length_append]

set_option maxHeartbeats 4000000 in
set_option maxRecDepth 100000 in
theorem write_any : ∀ t, WriteC t := by
  apply treeInd
  intro n t ks ih w0 w R v l a c hT hS hL hW
  obtain ⟨n, rfl⟩ : ∃ l : Bs, n = ⟨l.toArray⟩ := ⟨n.data.toList, by cases n; rfl⟩
  obtain ⟨t, rfl⟩ : ∃ l : Bs, t = ⟨l.toArray⟩ := ⟨t.data.toList, by cases t; rfl⟩
  obtain ⟨-, -, hn, ht, hkl, a', c', he, hK⟩ := hT.cells
  obtain ⟨i0, hi, hz0, hz1, hz2⟩ := info_byte
  simp only [Tree.name, Tree.text, Tree.kids] at hn ht hkl he hK ⊢
  injection he with e1 _ e3
  subst e1 e3
  have hS' := hS
  unfold SmT at hS'
  obtain ⟨hSn, hSt, hSk⟩ := hS'
  have hSn : n.length ≤ 4000000 := hSn
  have hSt : t.length ≤ 4000000 := hSt
  obtain ⟨p, cp, rfl⟩ := hW.form
  have HIH := Lib.hid ih
  have HK := Lib.hid hK
  have HSK := Lib.hid (SmKs.at hSk)
  have HL := Lib.hid hL
  unfold elC
  simp only [Tree.name, Tree.text, Tree.kids]
  obtain ⟨W0, hw0⟩ : ∃ W0, w.alloc (.cells #[.string ⟨n.toArray⟩, .string ⟨t.toArray⟩, .slice a ks.length c] 24) = W0 := ⟨_, rfl⟩
  have B0 : Below w.heap.size w W0 := by rw [← hw0]; exact below_alloc (Below.refl _ _) (Nat.le_refl _) _
  have X0 : Hid (WrIn w0 w W0 R (.slice p l.length cp) (.slice p l.length cp) l #[.string ⟨n.toArray⟩, .string ⟨t.toArray⟩, .slice a ks.length c]) :=
    ⟨hW.later B0, by rw [← hw0]; exact heap_alloc_new _ _, Chg.of_below B0, .inl rfl, hW.lt⟩
  have HW1 := Lib.hid (show 1000000 < l.length → wrT (.node ⟨n.toArray⟩ ⟨t.toArray⟩ ks) l = l from fun h => by unfold wrT; exact if_pos h)
  have HW2 := Lib.hid (show ¬ 1000000 < l.length → t = [] ∧ ks = [] → wrT (.node ⟨n.toArray⟩ ⟨t.toArray⟩ ks) l = l ++ (60 :: n ++ [47, 62]) from fun h h2 => by unfold wrT; rw [if_neg h, if_pos h2])
  have HW3 := Lib.hid (show ¬ 1000000 < l.length → ¬ (t = [] ∧ ks = []) → wrT (.node ⟨n.toArray⟩ ⟨t.toArray⟩ ks) l = wrKs ks (l ++ (60 :: n ++ 62 :: escL t)) ++ (60 :: 47 :: n ++ [62]) from fun h h2 => by unfold wrT; rw [if_neg h, if_neg h2])
  have k0 : W0.cell? ⟨w.heap.size, 0, none⟩ = some (.string ⟨n.toArray⟩) := cell_at X0.out.box rfl
  have k1 : W0.cell? ⟨w.heap.size, 1, none⟩ = some (.string ⟨t.toArray⟩) := cell_at X0.out.box rfl
  have k2 : W0.cell? ⟨w.heap.size, 2, none⟩ = some (.slice a ks.length c) := cell_at X0.out.box rfl
  clear hT hK ih hS hSk hW B0 hL
  go_enter Tryz.func24, Tryz.ntmps24
  by_cases g1 : 1000000 < l.length
  · have g1z : (1000000 : Int) < (l.length : Int) := by omega
    have HE := Lib.hid (HW1.out g1)
    go_wp2_with fail
    go_ret
    rw [HE.out]
    exact X0.out.out
  have g1z : ¬ (1000000 : Int) < (l.length : Int) := by omega
  clear HW1
  by_cases g2 : t = [] ∧ ks = []
  · obtain ⟨rfl, rfl⟩ := g2
    have HE := Lib.hid (HW2.out g1 ⟨rfl, rfl⟩)
    clear HW2 HW3 HIH HK HSK
    have hw0 : w.alloc (.cells #[.string ⟨n.toArray⟩, .string ⟨#[]⟩, .slice a 0 c] 24) = W0 := hw0
    obtain ⟨s, hs⟩ : ∃ s : Bs, [60] ++ n ++ [47, 62] = s := ⟨_, rfl⟩
    have HS := Lib.hid hs
    have HSL : Hid (s.length = n.length + 3) := by show _ = _; rw [← hs]; simp
    clear hs
    go_wp2_with (at_builtin; skip; refine wpList_append_x (by rfl) (by rfl) (by rfl) X0.out.at_.own s ?c2 ?c3 ?c4 ?c5 ?_)
    case c2 => exact (str3 [60] n [47, 62]).trans (congrArg (fun s : Bs => (⟨s.toArray⟩ : ByteArray)) HS.out)
    case c3 => have := HSL.out; intro e; rw [e] at this; simp only [List.length_nil] at this; omega
    case c4 => have := HL.out; have := HSL.out; have hz : l.length + s.length ≤ 140737488355328 := (by omega); exact hz
    case c5 => exact X0.out.at_.below.size
    intro v1 W1 hown hgr hat
    have X1 := Lib.hid (X0.out.app hown hgr hat)
    clear hown hgr hat k0 k1 k2
    go_wp2_with fail
    go_ret
    rw [HE.out, show l ++ (60 :: n ++ [47, 62]) = l ++ s from by rw [← HS.out]; rfl]
    exact X1.out.out
  have HE := Lib.hid (HW3.out g1 g2)
  have HREP0 := Lib.hid X0.out.at_.rep
  clear HW3 HW2
  go_upto_region 3 with (fail)
  go_cut [21] (fun s21 wx => s21 = .bool false ∧ wx = W0)
  case first =>
    by_cases g3 : t = []
    · have g4 : ks ≠ [] := fun e => g2 ⟨g3, e⟩
      have g4z : ¬ (ks.length : Int) = 0 := by have := List.length_pos_iff.2 g4; omega
      have g4b : ((ks.length : Int) == 0) = false := beq_eq_false_iff_ne.2 g4z
      subst g3
      have hw0 : w.alloc (.cells #[.string ⟨n.toArray⟩, .string ⟨#[]⟩, .slice a ks.length c] 24) = W0 := hw0
      go_wp2_with fail
      go_meet
      case rel => exact ⟨rfl, rfl⟩
    · cases t with
      | nil => exact absurd rfl g3
      | cons t0 tt =>
      go_wp2_with fail
      go_meet
      case rel => exact ⟨rfl, rfl⟩
  case rest =>
    obtain ⟨rfl, hww⟩ := hcut
    have hww := hww.symm
    subst hww
    obtain ⟨s, hs⟩ : ∃ s : Bs, [60] ++ n ++ [62] ++ escL t = s := ⟨_, rfl⟩
    have HS := Lib.hid hs
    have HSL : Hid (s.length = n.length + 2 + (escL t).length) := by show _ = _; rw [← hs]; simp; omega
    have HEL := Lib.hid (esc_len t)
    have HWL : Hid (l.length + s.length + (writeKids ks).length + n.length + 3 ≤ 70368744177664) := by
      have h1 := HL.out
      rw [writeL, if_neg g2] at h1
      show _ ≤ _
      rw [HSL.out]
      simp only [List.length_append, List.length_cons, List.length_nil] at h1
      omega
    have HES : Hid (wrT (.node ⟨n.toArray⟩ ⟨t.toArray⟩ ks) l = wrKs ks (l ++ s) ++ (60 :: 47 :: n ++ [62])) := by
      show _ = _
      rw [HE.out, ← hs]
      simp only [List.append_assoc, List.cons_append, List.nil_append]
    clear hs HE HL
    have hEL := HEL.out
    have cc1 : ¬ 9223372036854775807 < 1 + n.length := by omega
    have cc2 : ¬ 9223372036854775807 < 1 + n.length + 1 := by omega
    have cc3 : ¬ 9223372036854775807 < 1 + n.length + 1 + (escL t).length := by omega
    clear hEL
    go_upto_region 5 with (fail)
    refine wp_region_held_drew (S := (fun W : World => W.heap[w.heap.size]? = some (.cells #[.string ⟨n.toArray⟩, .string ⟨t.toArray⟩, .slice a ks.length c] 24 (0, 0)))) (by kernel_rfl) ((Below.drew (Below.refl _ _)).block _ (Array.getElem?_eq_some_iff.1 X0.out.box).1 |>.trans X0.out.box) (fun hS0 => ?_)
    have X1 := Lib.hid (X0.out.later (Below.drew (Below.refl _ _)))
    obtain ⟨K1, hk1, hk2, hk3⟩ := X1.out.at_.rep
    have HREP : Hid (Calls Tryz.prog 37 #[.pointer (some ⟨R, 0, none⟩), .string ⟨t.toArray⟩] W0.drew fun e w' => e = .returned (.string ⟨(escL t).toArray⟩) ∧ RepAt w' R (fun k => K1 k ∨ W0.drew.heap.size ≤ k) ∧ Chg W0.drew w' (fun k => k = R)) := replace_any hk1 hk2 ⟨t.toArray⟩ hSt
    have HK2 := Lib.hid hk2
    have HK3 := Lib.hid hk3
    clear hk1 hk2 hk3 X0
    generalize W0.drew = W1 at X1 HREP HK2 HK3 hS0 ⊢
    refine wpAnyH_take (i := 0) (oi := { dst := some 28, op := _, type := _, pos := _, after := _, guard := _ }) (v := ?_) rfl (by kernel_rfl) (by kernel_rfl) (by kernel_rfl) (fun _ _ _ h => h) (Or.inl ⟨by kernel_rfl, ?_⟩) (by assumption) ?_
    rotate_left
    · (intro w hSw; (try dsimp only at hSw); go_simp); all_goals (with_reducible rfl)
    try simp only [Act.put, List.setIfInBounds_toArray, List.set_cons_zero, List.set_cons_succ]
    refine wpAnyH_take (i := 1) (oi := { dst := some 29, op := _, type := _, pos := _, after := _, guard := _ }) (v := ?_) rfl (by kernel_rfl) (by kernel_rfl) (by kernel_rfl) (fun _ _ _ h => h) (Or.inl ⟨by kernel_rfl, ?_⟩) (by assumption) ?_
    rotate_left
    · (intro w hSw; (try dsimp only at hSw); go_simp); all_goals (with_reducible rfl)
    try simp only [Act.put, List.setIfInBounds_toArray, List.set_cons_zero, List.set_cons_succ]
    refine wpAnyH_take (i := 2) (oi := { dst := some 30, op := _, type := _, pos := _, after := _, guard := _ }) (v := ?_) rfl (by kernel_rfl) (by kernel_rfl) (by kernel_rfl) (fun _ _ _ h => h) (Or.inl ⟨by kernel_rfl, ?_⟩) (by assumption) ?_
    rotate_left
    · (intro w hSw; (try dsimp only at hSw); have j0 := cell_at (v := .string ⟨n.toArray⟩) (x := 0) hSw rfl; have j1 := cell_at (v := .string ⟨t.toArray⟩) (x := 1) hSw rfl; go_simp); all_goals (with_reducible rfl)
    try simp only [Act.put, List.setIfInBounds_toArray, List.set_cons_zero, List.set_cons_succ]
    refine wpAnyH_take (i := 3) (oi := { dst := some 31, op := _, type := _, pos := _, after := _, guard := _ }) (v := ?_) rfl (by kernel_rfl) (by kernel_rfl) (by kernel_rfl) (fun _ _ _ h => h) (Or.inl ⟨by kernel_rfl, ?_⟩) (by assumption) ?_
    rotate_left
    · (intro w hSw; (try dsimp only at hSw); go_simp); all_goals (with_reducible rfl)
    try simp only [Act.put, List.setIfInBounds_toArray, List.set_cons_zero, List.set_cons_succ]
    refine wpAnyH_take (i := 4) (oi := { dst := some 32, op := _, type := _, pos := _, after := _, guard := _ }) (v := ?_) rfl (by kernel_rfl) (by kernel_rfl) (by kernel_rfl) (fun _ _ _ h => h) (Or.inl ⟨by kernel_rfl, ?_⟩) (by assumption) ?_
    rotate_left
    · (intro w hSw; (try dsimp only at hSw); go_simp); all_goals (with_reducible rfl)
    try simp only [Act.put, List.setIfInBounds_toArray, List.set_cons_zero, List.set_cons_succ]
    refine wpAnyH_take (i := 5) (oi := { dst := some 33, op := _, type := _, pos := _, after := _, guard := _ }) (v := ?_) rfl (by kernel_rfl) (by kernel_rfl) (by kernel_rfl) (fun _ _ _ h => h) (Or.inl ⟨by kernel_rfl, ?_⟩) (by assumption) ?_
    rotate_left
    · (intro w hSw; (try dsimp only at hSw); go_simp); all_goals (with_reducible rfl)
    try simp only [Act.put, List.setIfInBounds_toArray, List.set_cons_zero, List.set_cons_succ]
    refine wpAnyH_take (i := 6) (oi := { dst := some 34, op := _, type := _, pos := _, after := _, guard := _ }) (v := ?_) rfl (by kernel_rfl) (by kernel_rfl) (by kernel_rfl) (fun _ _ _ h => h) (Or.inl ⟨by kernel_rfl, ?_⟩) (by assumption) ?_
    rotate_left
    · (intro w hSw; (try dsimp only at hSw); go_simp); all_goals (with_reducible rfl)
    try simp only [Act.put, List.setIfInBounds_toArray, List.set_cons_zero, List.set_cons_succ]
    refine wpAnyH_take (i := 7) (oi := { dst := some 35, op := _, type := _, pos := _, after := _, guard := _ }) (v := ?_) rfl (by kernel_rfl) (by kernel_rfl) (by kernel_rfl) (fun _ _ _ h => h) (Or.inl ⟨by kernel_rfl, ?_⟩) (by assumption) ?_
    rotate_left
    · (intro w hSw; (try dsimp only at hSw); have j0 := cell_at (v := .string ⟨n.toArray⟩) (x := 0) hSw rfl; have j1 := cell_at (v := .string ⟨t.toArray⟩) (x := 1) hSw rfl; go_simp); all_goals (with_reducible rfl)
    try simp only [Act.put, List.setIfInBounds_toArray, List.set_cons_zero, List.set_cons_succ]
    refine wpAnyH_ready (rs := [8]) (by kernel_rfl) (by simp) ?_
    refine (AllReadyH.cons (o := { dst := some 36, op := _, type := _, pos := _, after := _, guard := _ }) rfl (fun K hK => ?_) AllReadyH.nil)
    rw [if_pos (by kernel_rfl)]
    refine wp_call_go Tryz.func37 (by kernel_rfl) (by kernel_rfl) (xs := [.tmp 33, .tmp 35]) (by rfl) (vs := [.pointer (some ⟨R, 0, none⟩), .string ⟨t.toArray⟩]) (HREP.out) (by rfl) ?_
    rintro e W2 ⟨rfl, h2r, h2c⟩
    refine ⟨_, rfl, ?_⟩
    have X2 := Lib.hid (X1.out.replaced HK2.out HK3.out h2r h2c)
    clear h2r h2c
    refine hK.out _ W2 X2.out.box (fun hSe => ?_)
    clear hK K
    try simp only [Act.put, List.setIfInBounds_toArray, List.set_cons_zero, List.set_cons_succ]
    refine wpAnyH_take (i := 9) (oi := { dst := some 37, op := _, type := _, pos := _, after := _, guard := _ }) (v := ?_) rfl (by kernel_rfl) (by kernel_rfl) (by kernel_rfl) (fun _ _ _ h => h) (Or.inl ⟨by kernel_rfl, ?_⟩) (by assumption) ?_
    rotate_left
    · (intro w hSw; (try dsimp only at hSw); go_simp); all_goals (with_reducible rfl)
    try simp only [Act.put, List.setIfInBounds_toArray, List.set_cons_zero, List.set_cons_succ]
    refine wpAnyH_ready (rs := [10]) (by kernel_rfl) (by simp) ?_
    refine (AllReadyH.cons (o := { dst := some 38, op := _, type := _, pos := _, after := _, guard := _ }) rfl (fun K hK => ?_) AllReadyH.nil)
    rw [if_pos (by kernel_rfl)]
    refine wp_append_x (by rfl) (by rfl) X2.out.at_.own s (by exact congrArg Value.string ((str4 [60] n [62] (escL t)).trans (congrArg (fun s : Bs => (⟨s.toArray⟩ : ByteArray)) HS.out))) ?c3 ?c4 ?c5 ?_
    case c3 => have := HSL.out; intro e; rw [e] at this; simp only [List.length_nil] at this; omega
    case c4 => have := HWL.out; have hz : l.length + s.length ≤ 140737488355328 := (by omega); exact hz
    case c5 => exact X2.out.at_.below.size
    intro v3 W3 hown hgr hat
    have X3 := Lib.hid (X2.out.app hown hgr hat)
    clear hown hgr hat
    refine hK.out _ W3 X3.out.box (fun hSe => ?_)
    clear hK K
    try simp only [Act.put, List.setIfInBounds_toArray, List.set_cons_zero, List.set_cons_succ]
    refine wpAnyH_take (i := 11) (oi := { dst := some 0, op := _, type := _, pos := _, after := _, guard := _ }) (v := ?_) rfl (by kernel_rfl) (by kernel_rfl) (by kernel_rfl) (fun _ _ _ h => h) (Or.inl ⟨by kernel_rfl, ?_⟩) (by assumption) ?_
    rotate_left
    · (intro w hSw; (try dsimp only at hSw); go_simp); all_goals (with_reducible rfl)
    try simp only [Act.put, List.setIfInBounds_toArray, List.set_cons_zero, List.set_cons_succ]
    refine wpAnyH_done (by kernel_rfl) ?_ _
    have k2 : W3.cell? ⟨w.heap.size, 2, none⟩ = some (.slice a ks.length c) := cell_at X3.out.box rfl
    have HWL3 : Hid ((l ++ s).length + (writeKids ks).length + n.length + 3 ≤ 70368744177664) := by
      show _ ≤ _
      rw [List.length_append]
      exact HWL.out
    clear X2 X1 HREP HK2 HK3 HWL HS HSL HEL HREP0 hS0 hSe cc1 cc2 cc3
    go_wp2_with fail
    go_loopg [0, 42] ks.length (fun gg s0 s42 wr => ∃ (i : Nat) (v : Value) (li : Bs), i ≤ ks.length ∧ ks.length - i ≤ gg ∧ s42 = .int .i64 i ∧ s0 = v ∧ Hid (WrIn w0 w wr R (.slice p l.length cp) v li #[.string ⟨n.toArray⟩, .string ⟨t.toArray⟩, .slice a ks.length c]) ∧ Hid (wrKs ks (l ++ s) = wrKs (ks.drop i) li) ∧ Hid (li.length + (writeKids (ks.drop i)).length + n.length + 3 ≤ 70368744177664))
    case atStart => exact ⟨0, v3, l ++ s, Nat.zero_le _, by omega, rfl, rfl, X3.out, rfl, HWL3.out⟩
    case round =>
      obtain ⟨i, v, li, hi', hg, rfl, hv, HR, HSM, HB⟩ := hrel
      have hv := hv.symm
      subst hv
      by_cases hlt : i < ks.length
      · have hiz : (i : Int) < (ks.length : Int) := by omega
        obtain ⟨k, hik⟩ : ∃ k, ks[i]? = some k := ⟨_, List.getElem?_eq_getElem hlt⟩
        obtain ⟨b, off, a2, c2, rfl, hrg, hkT⟩ := kid_range HK.out hik
        have HKC : Hid (wr.rangeAt b (off + i * 3) [.string k.name, .string k.text, .slice a2 k.kids.length c2]) := fun j u hu => cell_later HR.out.at_.below (hrg j u hu)
        have HKT := Lib.hid hkT
        have HMK := Lib.hid (wrKs_at hik li)
        have HBK : Hid (li.length + (writeL k).length ≤ 70368744177664 ∧ (wrT k li).length + (writeKids (ks.drop (i + 1))).length + n.length + 3 ≤ 70368744177664) := by
          have h1 := (wr_law k li).high
          have h2 := writeKids_at hik
          have h3 := HB.out
          exact ⟨by omega, by omega⟩
        have HRK := Lib.hid (HIH.out k (List.mem_of_getElem? hik))
        have HSK1 := Lib.hid (HSK.out k (List.mem_of_getElem? hik))
        clear hrg hkT hik
        go_upto_region 9 with (first
          | (refine wpList_load_mid (by rfl) 24 _ (by rfl) b (off + i * 3) (by rfl) [.string k.name, .string k.text, .slice a2 k.kids.length c2] _ HKC.out Tryz.underlying24 rfl (by kernel_rfl) ?_)
          | (refine wpList_store_rowN (by rfl) 24 _ _ (by rfl) wr.heap.size #[.string k.name, .string k.text, .slice a2 k.kids.length c2] (by rfl) (by rfl) 24 elemZC (by exact heap_alloc_new _ _) (by kernel_rfl) (by rfl) (by kernel_rfl) (fun W => W.heap[wr.heap.size]? = some (.cells #[.string k.name, .string k.text, .slice a2 k.kids.length c2] 24 (0, 0)) ∧ Below wr.heap.size wr W) (by rw [setRow_alloc _ _ _ _ _ rfl]; exact ⟨heap_alloc_new _ _, below_alloc (Below.refl _ _) (Nat.le_refl _) _⟩) ?_; rintro W5 h5))
        have HB5 := Lib.hid h5.1
        have HR5 := Lib.hid (HR.out.later h5.2)
        generalize wr.heap.size = g8 at *
        clear h5 HKC
        go_wp2_with (refine wpList_load_row (by rfl) 24 _ (by rfl) g8 (by rfl) 24 #[.string k.name, .string k.text, .slice a2 k.kids.length c2] (0, 0) _ (by exact HB5.out) Tryz.underlying24 rfl (by kernel_rfl) ?_)
        refine (HRK.out w0 W5 R v li a2 c2 HKT.out HSK1.out HBK.out.1 HR5.out.at_).mono ?_
        rintro e W6 ho
        obtain ⟨v6, rfl, h6⟩ := HR5.out.called ho
        have HR6 := Lib.hid h6
        clear h6 ho
        go_wp2_with fail
        go_roundg (ks.length - (i + 1))
        case measure => omega
        case rel => exact ⟨i + 1, v6, wrT k li, by omega, Nat.le_refl _, by go_num, rfl, HR6.out, HSM.out.trans HMK.out, HBK.out.2⟩
      · have hiz : ¬ (i : Int) < (ks.length : Int) := by omega
        obtain rfl : i = ks.length := by omega
        obtain ⟨u, hu⟩ : ∃ u : Bs, [60, 47] ++ n ++ [62] = u := ⟨_, rfl⟩
        have HU := Lib.hid hu
        have HUL : Hid (u.length = n.length + 3) := by show _ = _; rw [← hu]; simp
        have HRES : Hid (wrT (.node ⟨n.toArray⟩ ⟨t.toArray⟩ ks) l = li ++ u) := by
          show _ = _
          rw [HES.out, HSM.out, List.drop_length, ← hu]
          rfl
        obtain ⟨p2, cp2, rfl⟩ := HR.out.at_.form
        have q0 : wr.cell? ⟨w.heap.size, 0, none⟩ = some (.string ⟨n.toArray⟩) := cell_at HR.out.box rfl
        clear hu HES HSM HIH HK HSK
        go_wp2_with (at_builtin; skip; refine wpList_append_x (by rfl) (by rfl) (by rfl) HR.out.at_.own u ?c2 ?c3 ?c4 ?c5 ?_)
        case c2 => exact (str3 [60, 47] n [62]).trans (congrArg (fun s : Bs => (⟨s.toArray⟩ : ByteArray)) HU.out)
        case c3 => have := HUL.out; intro e; rw [e] at this; simp only [List.length_nil] at this; omega
        case c4 => have := HB.out; have := HUL.out; have hz : li.length + u.length ≤ 140737488355328 := (by omega); exact hz
        case c5 => exact HR.out.at_.below.size
        intro v7 W7 hown hgr hat
        have X7 := Lib.hid (HR.out.app hown hgr hat)
        clear hown hgr hat q0
        go_wp2_with fail
        go_ret
        rw [HRES.out]
        exact X7.out.out
end Go.Proofs.YtgmgghbocidibaaGreatDoor
