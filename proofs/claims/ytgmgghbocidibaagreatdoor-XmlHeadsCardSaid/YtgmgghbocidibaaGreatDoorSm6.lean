/-
  SEVERAL SMALL TEXTS IN ONE.
-/
import Derived.Test.YtgmgghbocidibaaGreatDoorSm5
import Derived.Deep.MidRow
import Derived.Deep.LoopGhost
import Derived.Test.YtgmgghbocidibaaGreatDoorSm0
/-
  xml.right, isRight.
-/
namespace Go.Proofs.YtgmgghbocidibaaGreatDoor
open Go.RowKit Go.Lib

mutual
theorem treeInd {P : Tree → Prop} (h : ∀ n t ks, (∀ k ∈ ks, P k) → P (.node n t ks)) : ∀ t, P t
  | .node n t ks => h n t ks (treeInds h ks)
theorem treeInds {P : Tree → Prop} (h : ∀ n t ks, (∀ k ∈ ks, P k) → P (.node n t ks)) : ∀ ks : List Tree, ∀ k ∈ ks, P k
  | [], _, hk => by cases hk
  | x :: ks, k, hk => (List.mem_cons.1 hk).elim (fun e => e ▸ treeInd h x) (fun hk => treeInds h ks k hk)
end
mutual
/-- is an element right, with so many around it; how many may still come -/
def rightX : Tree → Nat → Int → Bool × Int
  | .node n t ks, ar, lf =>
    if lf < 1 ∨ ar = 20 ∨ n.data.toList = [] ∨ 100 < n.data.toList.length ∨ firstX (n.data.toList.headD 0) = false ∨ (0 < ks.length ∧ t.data.toList ≠ []) then (false, lf - 1)
    else if n.data.toList.any (fun b => !moreX b) = true ∨ plainX t.data.toList = false then (false, lf - 1)
    else rightKsX ks (ar + 1) (lf - 1)
def rightKsX : List Tree → Nat → Int → Bool × Int
  | [], _, lf => (true, lf)
  | k :: ks, ar, lf => if (rightX k ar lf).1 then rightKsX ks ar (rightX k ar lf).2 else (false, (rightX k ar lf).2)
end
theorem rightX_bd : ∀ (t : Tree) (ar : Nat) (lf : Int), 0 ≤ lf → -1 ≤ (rightX t ar lf).2 ∧ (rightX t ar lf).2 ≤ lf ∧ ((rightX t ar lf).1 = true → 0 ≤ (rightX t ar lf).2) := by
  apply treeInd
  intro n t ks ih ar lf h0
  have hk : ∀ (ks' : List Tree) (lf : Int), (∀ k ∈ ks', k ∈ ks) → 0 ≤ lf → -1 ≤ (rightKsX ks' (ar + 1) lf).2 ∧ (rightKsX ks' (ar + 1) lf).2 ≤ lf ∧ ((rightKsX ks' (ar + 1) lf).1 = true → 0 ≤ (rightKsX ks' (ar + 1) lf).2) := by
    intro ks'
    induction ks' with
    | nil => intro lf _ h; simp only [rightKsX]; exact ⟨by omega, by omega, fun _ => h⟩
    | cons k ks' ihk =>
      intro lf hm h
      obtain ⟨h1, h2, h3⟩ := ih k (hm k (by simp)) (ar + 1) lf h
      simp only [rightKsX]
      split
      · rename_i c
        obtain ⟨h4, h5, h6⟩ := ihk (rightX k (ar + 1) lf).2 (fun x hx => hm x (by simp [hx])) (h3 c)
        exact ⟨h4, by omega, h6⟩
      · exact ⟨h1, h2, fun h => by simp at h⟩
  simp only [rightX]
  split
  · simp only; exact ⟨by omega, by omega, fun h => by simp at h⟩
  · split
    · simp only; exact ⟨by omega, by omega, fun h => by simp at h⟩
    · obtain ⟨h1, h2, h3⟩ := hk ks (lf - 1) (fun _ h => h) (by omega)
      exact ⟨h1, by omega, h3⟩
theorem rightKsX_at {ks : List Tree} {i : Nat} {k : Tree} (h : ks[i]? = some k) (ar : Nat) (lf : Int) :
    rightKsX (ks.drop i) ar lf = if (rightX k ar lf).1 then rightKsX (ks.drop (i + 1)) ar (rightX k ar lf).2 else (false, (rightX k ar lf).2) := by
  have hlt := (List.getElem?_eq_some_iff.1 h).1
  rw [List.drop_eq_getElem_cons hlt, (List.getElem?_eq_some_iff.1 h).2]
  rfl

/-! ### how it lies -/
/-- how many may still come -/
def LeftAt (w : World) (gl : Nat) (lf : Int) : Prop := w.heap[gl]? = some (.cells #[.int .i64 lf] 3 (0, 0))
theorem LeftAt.cell {w : World} {gl : Nat} {lf : Int} (h : LeftAt w gl lf) : w.cell? ⟨gl, 0, none⟩ = some (.int .i64 lf) := cell_of_heap h
mutual
theorem TreeIn.kept {w w' : World} (hb : ∀ b o v, w.cell? ⟨b, o, none⟩ = some v → (∀ k n, v ≠ .int k n) → w'.cell? ⟨b, o, none⟩ = some v) : ∀ (t : Tree) (x y z : Value), TreeIn w t x y z → TreeIn w' t x y z
  | .node n t ks, x, y, z, h => by
    unfold TreeIn at *
    obtain ⟨h1, h2, h3, h4, h5, a, c, h6, h7⟩ := h
    exact ⟨h1, h2, h3, h4, h5, a, c, h6, KidsIn.kept hb ks a 0 h7⟩
theorem KidsIn.kept {w w' : World} (hb : ∀ b o v, w.cell? ⟨b, o, none⟩ = some v → (∀ k n, v ≠ .int k n) → w'.cell? ⟨b, o, none⟩ = some v) : ∀ (ks : List Tree) (a : Option Addr) (i : Nat), KidsIn w ks a i → KidsIn w' ks a i
  | [], _, _, _ => by unfold KidsIn; trivial
  | k :: ks, a, i, h => by
    unfold KidsIn at *
    obtain ⟨⟨b, off, x, y, z, h1, h2, h3, h4, h5⟩, h6⟩ := h
    obtain ⟨rfl, rfl, _, _, _, a', c', rfl, _⟩ := h5.cells
    exact ⟨⟨b, off, _, _, _, h1, hb _ _ _ h2 (fun _ _ e => by cases e), hb _ _ _ h3 (fun _ _ e => by cases e), hb _ _ _ h4 (fun _ _ e => by cases e), TreeIn.kept hb k _ _ _ h5⟩, KidsIn.kept hb ks a (i + 1) h6⟩
end
theorem Chg.cell {A B : World} {M : Nat → Prop} (h : Chg A B M) {b o : Nat} {u : Value} (hm : ¬ M b) (hu : A.cell? ⟨b, o, none⟩ = some u) : B.cell? ⟨b, o, none⟩ = some u := by
  rw [World.cell?_of_block (w := A) (h.block b (World.block_lt_of_cell? A _ hu) hm)]; exact hu
theorem LeftAt.keep {w w' : World} {gl : Nat} {lf : Int} (h : LeftAt w gl lf) (hc : Chg w w' (fun b => b = gl)) : ∀ b o v, w.cell? ⟨b, o, none⟩ = some v → (∀ k n, v ≠ .int k n) → w'.cell? ⟨b, o, none⟩ = some v := fun b o v hv hn => by
  by_cases hb : b = gl
  · subst hb
    rw [cell_of_heap h] at hv
    cases o with
    | zero => simp at hv; exact absurd hv.symm (hn _ _)
    | succ o => simp at hv
  · exact hc.cell (by exact hb) hv
def Tabs (w : World) : Prop := Utf8Tabs 1 2 w
theorem Tabs.kept {w w' : World} (h : Tabs w) (hb : ∀ b o v, b < 8 → w.cell? ⟨b, o, none⟩ = some v → w'.cell? ⟨b, o, none⟩ = some v) : Tabs w' :=
  ⟨fun c hc => hb _ _ _ (by decide) (h.1 c hc), fun i hi => ⟨hb _ _ _ (by decide) (h.2 i hi).1, hb _ _ _ (by decide) (h.2 i hi).2⟩⟩
theorem Tabs.later {w w' : World} (h : Tabs w) (hb : Below w.heap.size w w') : Tabs w' := h.kept fun _ _ _ _ hv => cell_later hb hv
theorem Tabs.chg {w w' : World} {gl : Nat} (h : Tabs w) (hc : Chg w w' (fun b => b = gl)) (hg : 8 ≤ gl) : Tabs w' := h.kept fun b o v hb hv => by
  rw [World.cell?_of_block (w := w) (hc.block b (World.block_lt_of_cell? w _ hv) (by omega))]; exact hv
theorem below_bytesW (w : World) (e : TypeId) (s : ByteArray) : Below w.heap.size w (Lib.bytesWorld w e s) := by
  refine ⟨?_, ?_, ?_, ?_, fun k hk => Lib.bytesWorld_at_old w e s k hk⟩
  · unfold Lib.bytesWorld World.freeze; split <;> rfl
  · unfold Lib.bytesWorld World.freeze; split <;> rfl
  · unfold Lib.bytesWorld World.freeze; split <;> rfl
  · rw [Lib.bytesWorld_size]; omega
/-- bytes of a text, in a row of their own -/
theorem wpList_convert_bytes {P : Program} {ops : Array Oper} {rest : List Oper} {o : Oper} {a : Act} {w : World} {Q : Exit → Act → World → Prop} (hgd : o.guard = none) (src dst : TypeId) (x : Operand) (ho : o.op = .convert src dst x)
    (e : TypeId) (hs : P.underlying src = some .string) (hd : P.underlying dst = some (.slice e)) (he : P.underlying e = some (.int .u8)) (l : Bs) (hx : a.eval x = .string ⟨l.toArray⟩)
    (h : ∀ cap W, Below w.heap.size w W → (∀ j, j < l.length → W.cell? ⟨w.heap.size, 0 + j, none⟩ = some (.int .u8 (l.getD j 0).toNat)) → wpList P ops Q rest (a.put o.dst (.slice (some ⟨w.heap.size, 0, none⟩) l.length cap)) W) : wpList P ops Q (o :: rest) a w :=
  wpList_plain hgd fun _ hK => by
    unfold Oper.wp execOp
    simp only [ho, hx, Sem.run_bind, Sem.run_pure, Result.andThen_ok, Lib.run_convert_string_bytes w src dst e ⟨l.toArray⟩ hs hd he]
    exact hK _ _ (h _ _ (below_bytesW w e _) (fun j hj => by rw [Nat.zero_add]; exact Lib.bytesWorld_cell w e ⟨l.toArray⟩ j hj))
def encU8 (b : UInt8) : Value := .int .u8 b.toNat
theorem xnotmore_at (w : World) : PredAt Tryz.prog 51 #[] encU8 (fun b => !moreX b) w := fun W b _ => by
  show Calls Tryz.prog 51 #[.int .u8 b.toNat] W _
  have HK := Lib.hid (xmore_any b W)
  obtain ⟨k, hk⟩ : ∃ k, moreX b = k := ⟨_, rfl⟩
  simp only [hk] at HK ⊢
  clear hk
  go_enter Tryz.func51, Tryz.ntmps51
  go_wp2_with fail
  refine HK.out.mono ?_
  rintro e w1 ⟨rfl, rfl⟩
  go_wp2_with fail
  go_ret
  exact ⟨rfl, 0, rfl⟩
def RightOut (r : Bool × Int) (gl : Nat) (w : World) (e : Ending) (w' : World) : Prop := e = .returned (.bool r.1) ∧ LeftAt w' gl r.2 ∧ Chg w w' (fun b => b = gl)
end Go.Proofs.YtgmgghbocidibaaGreatDoor

/-
  ARMS for walks: a row, a part of one, one cell is stored: the world behind it by its facts alone.
-/
namespace Go.Proofs.YtgmgghbocidibaaGreatDoor
open Go.RowKit

/-- a row is stored; the world behind it by its facts alone -/
theorem wpList_store_rowN {P : Program} {ops : Array Oper} {rest : List Oper} {o : Oper} {a : Act} {w : World} {Q : Exit → Act → World → Prop} (hgd : o.guard = none) (ty : TypeId) (x y : Operand) (ho : o.op = .store ty x y)
    (g : Nat) (cells : Array Value) (hx : a.eval x = .pointer (some ⟨g, 0, none⟩)) (hy : a.eval y = .agg cells)
    (t : TypeId) (old : Array Value) (hg : w.heap[g]? = some (.cells old t (0, 0))) (hi : (P.info? ty).map (·.size) = some cells.size)
    (hold : old.size = cells.size) (h1 : cells.all (·.oneCell') = true) (p : World → Prop) (hp : p (w.setRow g cells))
    (h : ∀ W, p W → wpList P ops Q rest (a.put o.dst undef) W) : wpList P ops Q (o :: rest) a w :=
  wpList_store_row hgd ty x y ho g cells hx hy t old hg hi hold h1 (h _ hp)

/-- a block whose cells o .. o + vs.length are written anew -/
def partSet (old : Array Value) (o : Nat) (vs : List Value) : Array Value := (old.toList.take o ++ vs ++ old.toList.drop (o + vs.length)).toArray
theorem run_storeVar_part {P : Program} (w : World) (g o : Nat) (ty t : TypeId) (old : Array Value) (vs : List Value) (hg : w.heap[g]? = some (.cells old t (0, 0))) (ho : o + vs.length ≤ old.size) (hi : (P.info? ty).map (·.size) = some vs.length) (h1 : vs.all (·.oneCell') = true) :
    (storeVar ty ⟨g, o, none⟩ (.agg vs.toArray)).run P w = .ok () (w.setRow g (partSet old o vs)) := by
  have := run_storeCells_at (P := P) g o t vs 0 old w hg (by omega) (fun x hx => List.all_eq_true.1 h1 x hx)
  cases hq : P.info? ty with
  | none => simp [hq] at hi
  | some i =>
    have hs : vs.length = i.size := by simp [hq] at hi; omega
    simp only [Nat.add_zero] at this
    simp [storeVar, sizeOf, typeInfo, hq, Value.cells, hs, this, partSet]
theorem wpList_store_partN {P : Program} {ops : Array Oper} {rest : List Oper} {o : Oper} {a : Act} {w : World} {Q : Exit → Act → World → Prop} (hgd : o.guard = none) (ty : TypeId) (x y : Operand) (ho : o.op = .store ty x y)
    (g off : Nat) (vs : List Value) (hx : a.eval x = .pointer (some ⟨g, off, none⟩)) (hy : a.eval y = .agg vs.toArray)
    (t : TypeId) (old : Array Value) (hg : w.heap[g]? = some (.cells old t (0, 0))) (hoff : off + vs.length ≤ old.size) (hi : (P.info? ty).map (·.size) = some vs.length) (h1 : vs.all (·.oneCell') = true)
    (p : World → Prop) (hp : p (w.setRow g (partSet old off vs)))
    (h : ∀ W, p W → wpList P ops Q rest (a.put o.dst undef) W) : wpList P ops Q (o :: rest) a w :=
  wpList_plain hgd fun _ hK => by
    unfold Oper.wp execOp
    simp only [ho, hx, hy, Instr.storeAt, Instr.sureAddr, Sem.run_bind, Sem.run_pure, Result.andThen_ok, run_storeVar_part w g off ty t old vs hg hoff hi h1]
    exact hK _ _ (h _ hp)
theorem run_storeVar_cell {P : Program} (w : World) (g o : Nat) (ty t : TypeId) (old : Array Value) (v : Value) (hg : w.heap[g]? = some (.cells old t (0, 0))) (ho : o < old.size) (hi : (P.info? ty).map (·.size) = some 1) (h1 : v.oneCell' = true) :
    (storeVar ty ⟨g, o, none⟩ v).run P w = .ok () (w.setRow g (partSet old o [v])) := by
  have := run_storeCells_at (P := P) g o t [v] 0 old w hg (by simp; omega) (fun x hx => by simp at hx; subst hx; exact h1)
  have hc : v.cells = #[v] := by cases v <;> first | rfl | cases h1
  cases hq : P.info? ty with
  | none => simp [hq] at hi
  | some i =>
    have hs : i.size = 1 := by simpa [hq] using hi
    rw [show (old.toList.take (o + 0) ++ [v] ++ old.toList.drop (o + 0 + [v].length)).toArray = partSet old o [v] from rfl] at this
    simp [storeVar, sizeOf, typeInfo, hq, hc, hs, this]
theorem wp_store_cellN {P : Program} {o : Oper} {a : Act} {w : World} {K : Act → World → Prop} {Q : Exit → Act → World → Prop} (ty : TypeId) (x y : Operand) (ho : o.op = .store ty x y)
    (g off : Nat) (v : Value) (hx : a.eval x = .pointer (some ⟨g, off, none⟩)) (hy : a.eval y = v) (h1 : v.oneCell' = true)
    (t : TypeId) (old : Array Value) (hg : w.heap[g]? = some (.cells old t (0, 0))) (hoff : off < old.size) (hi : (P.info? ty).map (·.size) = some 1)
    (p : World → Prop) (hp : p (w.setRow g (partSet old off [v])))
    (h : ∀ W, p W → K (a.put o.dst undef) W) : o.wp P a w K Q := by
  unfold Oper.wp execOp
  simp only [ho, hx, hy, Instr.storeAt, Instr.sureAddr, Sem.run_bind, Sem.run_pure, Result.andThen_ok, run_storeVar_cell w g off ty t old v hg hoff hi h1]
  exact h _ hp
theorem wpList_store_cellN {P : Program} {ops : Array Oper} {rest : List Oper} {o : Oper} {a : Act} {w : World} {Q : Exit → Act → World → Prop} (hgd : o.guard = none) (ty : TypeId) (x y : Operand) (ho : o.op = .store ty x y)
    (g off : Nat) (v : Value) (hx : a.eval x = .pointer (some ⟨g, off, none⟩)) (hy : a.eval y = v) (h1 : v.oneCell' = true)
    (t : TypeId) (old : Array Value) (hg : w.heap[g]? = some (.cells old t (0, 0))) (hoff : off < old.size) (hi : (P.info? ty).map (·.size) = some 1)
    (p : World → Prop) (hp : p (w.setRow g (partSet old off [v])))
    (h : ∀ W, p W → wpList P ops Q rest (a.put o.dst undef) W) : wpList P ops Q (o :: rest) a w :=
  wpList_plain hgd fun _ hK => wp_store_cellN ty x y ho g off v hx hy h1 t old hg hoff hi p hp fun W hW => hK _ _ (h W hW)

/-- a part of a block that is known -/
theorem range_of_heap {w : World} {g o : Nat} {cur : Array Value} {t : TypeId} {fr : Nat × Nat} {cs : List Value} (h : w.heap[g]? = some (.cells cur t fr)) (hc : ∀ j v, cs[j]? = some v → cur[o + j]? = some v) : w.rangeAt g o cs := fun j v hv => by
  have := hc j v hv
  simp only [World.cell?, h]
  simpa using this
theorem heap_old {w : World} {k : Nat} {x : Obj} (o : Obj) (h : w.heap[k]? = some x) : (w.alloc o).heap[k]? = some x := (Below.heap_alloc w o k (Array.getElem?_eq_some_iff.1 h).1).trans h
theorem cell_at {w : World} {g x : Nat} {cur : Array Value} {t : TypeId} {v : Value} (h : w.heap[g]? = some (.cells cur t (0, 0))) (hv : cur[x]? = some v) : w.cell? ⟨g, x, none⟩ = some v := (cell_of_heap h).trans hv
theorem Chg.setRow_on {A B : World} {M : Nat → Prop} (h : Chg A B M) {g : Nat} (new : Array Value) (hm : M g) : Chg A (B.setRow g new) M :=
  ⟨h.os, h.tape, h.output, by have := h.size; simpa using this, fun k hk hn => (setRow_other _ _ _ _ (fun e => hn (by rw [e]; exact hm))).trans (h.block k hk hn)⟩
theorem Chg.below_on {A B C : World} {M : Nat → Prop} (h : Chg A B M) (k : Below B.heap.size B C) : Chg A C M := h.trans (Chg.of_below k)
end Go.Proofs.YtgmgghbocidibaaGreatDoor
