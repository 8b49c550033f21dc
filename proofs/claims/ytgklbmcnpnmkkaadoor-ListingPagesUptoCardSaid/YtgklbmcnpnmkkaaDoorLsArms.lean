/-
  ARMS: a part of a row is stored (the world behind it by its facts alone); a slice that is read is appended to nil.
-/
import Derived.Test.YtgklbmcnpnmkkaaDoorLsTellU
import Derived.Deep.MidRow
namespace Go.Proofs.YtgklbmcnpnmkkaaDoor
open Go.RowKit

/-- a block whose cells o .. o + vs.length are written anew -/
def partSet (old : Array Value) (o : Nat) (vs : List Value) : Array Value := (old.toList.take o ++ vs ++ old.toList.drop (o + vs.length)).toArray
theorem run_storeVar_part {P : Program} (w : World) (g o : Nat) (ty t : TypeId) (old : Array Value) (vs : List Value) (hg : w.heap[g]? = some (.cells old t (0, 0))) (ho : o + vs.length ≤ old.size) (hi : (P.info? ty).map (·.size) = some vs.length) (h1 : vs.all (·.oneCell') = true) :
    (storeVar ty ⟨g, o, none⟩ (.agg vs.toArray)).run P w = .ok () (w.setRow g (partSet old o vs)) := by
  have := run_storeCells_at (P := P) g o t vs 0 old w hg (by omega) (fun x hx => List.all_eq_true.1 h1 x hx)
  cases hq : P.info? ty with
  | none => simp [hq] at hi
  | some i =>
    have hs : vs.length = i.size := by simp [hq] at hi; omega
    simp only [Nat.add_zero] at this
    simp [storeVar, sizeOf, typeInfo, hq, Value.cells, hs, this, partSet]
theorem wpList_store_partN {P : Program} {ops : Array Oper} {rest : List Oper} {o : Oper} {a : Act} {w : World} {Q : Exit → Act → World → Prop} (hgd : o.guard = none) (ty : TypeId) (x y : Operand) (ho : o.op = .store ty x y)
    (g off : Nat) (vs : List Value) (hx : a.eval x = .pointer (some ⟨g, off, none⟩)) (hy : a.eval y = .agg vs.toArray)
    (t : TypeId) (old : Array Value) (hg : w.heap[g]? = some (.cells old t (0, 0))) (hoff : off + vs.length ≤ old.size) (hi : (P.info? ty).map (·.size) = some vs.length) (h1 : vs.all (·.oneCell') = true)
    (p : World → Prop) (hp : p (w.setRow g (partSet old off vs)))
    (h : ∀ W, p W → wpList P ops Q rest (a.put o.dst undef) W) : wpList P ops Q (o :: rest) a w :=
  wpList_plain hgd fun _ hK => by
    unfold Oper.wp execOp
    simp only [ho, hx, hy, Instr.storeAt, Instr.sureAddr, Sem.run_bind, Sem.run_pure, Result.andThen_ok, run_storeVar_part w g off ty t old vs hg hoff hi h1]
    exact hK _ _ (h _ hp)
theorem run_storeVar_cell {P : Program} (w : World) (g o : Nat) (ty t : TypeId) (old : Array Value) (v : Value) (hg : w.heap[g]? = some (.cells old t (0, 0))) (ho : o < old.size) (hi : (P.info? ty).map (·.size) = some 1) (h1 : v.oneCell' = true) :
    (storeVar ty ⟨g, o, none⟩ v).run P w = .ok () (w.setRow g (partSet old o [v])) := by
  have := run_storeCells_at (P := P) g o t [v] 0 old w hg (by simp; omega) (fun x hx => by simp at hx; subst hx; exact h1)
  have hc : v.cells = #[v] := by cases v <;> first | rfl | cases h1
  cases hq : P.info? ty with
  | none => simp [hq] at hi
  | some i =>
    have hs : i.size = 1 := by simpa [hq] using hi
    rw [show (old.toList.take (o + 0) ++ [v] ++ old.toList.drop (o + 0 + [v].length)).toArray = partSet old o [v] from rfl] at this
    simp [storeVar, sizeOf, typeInfo, hq, hc, hs, this]
theorem wp_store_cellN {P : Program} {o : Oper} {a : Act} {w : World} {K : Act → World → Prop} {Q : Exit → Act → World → Prop} (ty : TypeId) (x y : Operand) (ho : o.op = .store ty x y)
    (g off : Nat) (v : Value) (hx : a.eval x = .pointer (some ⟨g, off, none⟩)) (hy : a.eval y = v) (h1 : v.oneCell' = true)
    (t : TypeId) (old : Array Value) (hg : w.heap[g]? = some (.cells old t (0, 0))) (hoff : off < old.size) (hi : (P.info? ty).map (·.size) = some 1)
    (p : World → Prop) (hp : p (w.setRow g (partSet old off [v])))
    (h : ∀ W, p W → K (a.put o.dst undef) W) : o.wp P a w K Q := by
  unfold Oper.wp execOp
  simp only [ho, hx, hy, Instr.storeAt, Instr.sureAddr, Sem.run_bind, Sem.run_pure, Result.andThen_ok, run_storeVar_cell w g off ty t old v hg hoff hi h1]
  exact h _ hp
theorem wpList_store_cellN {P : Program} {ops : Array Oper} {rest : List Oper} {o : Oper} {a : Act} {w : World} {Q : Exit → Act → World → Prop} (hgd : o.guard = none) (ty : TypeId) (x y : Operand) (ho : o.op = .store ty x y)
    (g off : Nat) (v : Value) (hx : a.eval x = .pointer (some ⟨g, off, none⟩)) (hy : a.eval y = v) (h1 : v.oneCell' = true)
    (t : TypeId) (old : Array Value) (hg : w.heap[g]? = some (.cells old t (0, 0))) (hoff : off < old.size) (hi : (P.info? ty).map (·.size) = some 1)
    (p : World → Prop) (hp : p (w.setRow g (partSet old off [v])))
    (h : ∀ W, p W → wpList P ops Q rest (a.put o.dst undef) W) : wpList P ops Q (o :: rest) a w :=
  wpList_plain hgd fun _ hK => wp_store_cellN ty x y ho g off v hx hy h1 t old hg hoff hi p hp fun W hW => hK _ _ (h W hW)

/-- a slice that is read, appended to nil -/
theorem run_append_sl {P : Program} (w : World) (t ty e : TypeId) (i : TypeInfo) (z : Value) (size bytes : Nat) (ht : P.underlying t = some (.slice e)) (hi : P.info? e = some i) (hz : i.zero = some z)
    (hsize : i.size = size) (hby : i.bytes = bytes) (hzs : z.cells.size = size) (hsz : 0 < size) {v : Value} {rows : List (List Value)} (hv : SlAt w size v rows) (hr : ∀ r ∈ rows, r.length = size) (h1 : ∀ u ∈ rows.flatten, u.oneCell' = true)
    (h63 : rows.length ≤ maxLen) (hbytes : rows.length * bytes ≤ 140737488355328) :
    ∃ v' w', (Builtin.append_ #[t, t] ty #[.slice none 0 0, v]).run P w = .ok v' w' ∧ w'.ownsRow w.heap.size e size v' rows.length rows.flatten ∧ Below w.heap.size w w' := by
  obtain ⟨a, c, rfl, _, h⟩ := hv
  cases rows with
  | nil =>
    refine ⟨.slice none 0 0, w, ?_, World.ownsRow_nil _ _ _ _, Below.refl _ _⟩
    cases a with
    | none => simp [Builtin.append_, run_underlying ht, sizeOf, typeInfo, hi, Builtin.lenOf, Builtin.firstCells]
    | some a => simp [Builtin.append_, run_underlying ht, sizeOf, typeInfo, hi, Builtin.lenOf, Builtin.firstCells, loadCells, loadCellsFrom]
  | cons r0 rows =>
    obtain ⟨b, off, rfl, _⟩ := h 0 r0 rfl
    obtain ⟨v', w', hrun, h2, h3, _, h5⟩ := run_append_own_at (P := P) w w.heap.size t ty e i z size bytes ht hi hz hsize hby hzs hsz (.slice none 0 0) 0 [] (World.ownsRow_nil _ _ _ _) ⟨b, off, none⟩ (r0 :: rows).length c (r0 :: rows).flatten
      (flatten_len hr) (fun j u hj => by
        obtain ⟨k, x, r, rfl, h1, h2⟩ := flatten_at hsz hr hj
        obtain ⟨b', off', e, k0⟩ := h k r h1
        injection e with e
        injection e with e1 e2 _
        subst e1 e2
        rw [Addr.add_mid, ← Nat.add_assoc]
        exact k0 x u h2) h1 (by omega) (by rw [Nat.zero_add]; exact hbytes) (Nat.le_refl _)
    refine ⟨v', w', hrun, by simpa using h2, ⟨h3.os, h3.tape, h3.output, h3.size, fun k hk => h3.block k hk (fun e => by simp [Value.ownBlock] at e)⟩⟩
theorem wp_append_sl {P : Program} {o : Oper} {a : Act} {w : World} {K : Act → World → Prop} {Q : Exit → Act → World → Prop} (s x : Operand) (t : TypeId)
    (ho : o.op = .call { callee := .builtin .append, args := #[s, x], argTypes := #[t, t] })
    (e : TypeId) {size bytes : Nat} {z : Value} (ht : P.underlying t = some (.slice e)) (hi : ∃ i, P.info? e = some i ∧ i.zero = some z ∧ i.size = size ∧ i.bytes = bytes) (hzs : z.cells.size = size) (hsz : 0 < size)
    {v : Value} {rows : List (List Value)} (hs : a.eval s = .slice none 0 0) (hx : a.eval x = v) (hv : SlAt w size v rows) (hr : ∀ r ∈ rows, r.length = size) (h1 : ∀ u ∈ rows.flatten, u.oneCell' = true)
    (h63 : rows.length ≤ maxLen) (hbytes : rows.length * bytes ≤ 140737488355328)
    (h : ∀ v' w', w'.ownsRow w.heap.size e size v' rows.length rows.flatten → Below w.heap.size w w' → K (a.put o.dst v') w') : o.wp P a w K Q := by
  obtain ⟨i, hi, hz, hsize, hby⟩ := hi
  obtain ⟨v', w', hrun, h2, h3⟩ := run_append_sl (P := P) w t o.type e i z size bytes ht hi hz hsize hby hzs hsz hv hr h1 h63 hbytes
  unfold Oper.wp execOp
  simp only [ho, resolve, invoke, builtin, Sem.run_bind, Sem.run_pure, Result.andThen_ok, List.map_toArray, List.map_cons, List.map_nil, hs, hx, hrun]
  exact h v' w' h2 h3
theorem wpList_append_sl {P : Program} {ops : Array Oper} {rest : List Oper} {o : Oper} {a : Act} {w : World} {Q : Exit → Act → World → Prop} (hgd : o.guard = none) (s x : Operand) (t : TypeId)
    (ho : o.op = .call { callee := .builtin .append, args := #[s, x], argTypes := #[t, t] })
    (e : TypeId) {size bytes : Nat} {z : Value} (ht : P.underlying t = some (.slice e)) (hi : ∃ i, P.info? e = some i ∧ i.zero = some z ∧ i.size = size ∧ i.bytes = bytes) (hzs : z.cells.size = size) (hsz : 0 < size)
    {v : Value} {rows : List (List Value)} (hs : a.eval s = .slice none 0 0) (hx : a.eval x = v) (hv : SlAt w size v rows) (hr : ∀ r ∈ rows, r.length = size) (h1 : ∀ u ∈ rows.flatten, u.oneCell' = true)
    (h63 : rows.length ≤ maxLen) (hbytes : rows.length * bytes ≤ 140737488355328)
    (h : ∀ v' w', w'.ownsRow w.heap.size e size v' rows.length rows.flatten → Below w.heap.size w w' → wpList P ops Q rest (a.put o.dst v') w') : wpList P ops Q (o :: rest) a w :=
  wpList_plain hgd fun _ hK => wp_append_sl s x t ho e ht hi hzs hsz hs hx hv hr h1 h63 hbytes fun v' w' h2 h3 => hK _ _ (h v' w' h2 h3)
/-- blobs, parts: copied to memory of one's own by an append to nil -/
theorem blobs_maxLen {l : List Int} (h : l.length ≤ 17592186043904) : (blobCells l).length ≤ maxLen ∧ (blobCells l).length * 8 ≤ 140737488355328 := by
  unfold blobCells
  rw [List.length_map]
  simp only [maxLen]
  omega
theorem parts_maxLen {l : List PartD} (h : l.length ≤ 2932031007317) : (partCells l).length ≤ maxLen ∧ (partCells l).length * 48 ≤ 140737488355328 := by
  unfold partCells
  rw [List.length_map]
  simp only [maxLen]
  omega
/-- a part of a block that is known -/
theorem range_of_heap {w : World} {g o : Nat} {cur : Array Value} {t : TypeId} {fr : Nat × Nat} {cs : List Value} (h : w.heap[g]? = some (.cells cur t fr)) (hc : ∀ j v, cs[j]? = some v → cur[o + j]? = some v) : w.rangeAt g o cs := fun j v hv => by
  have := hc j v hv
  simp only [World.cell?, h]
  simpa using this
end Go.Proofs.YtgklbmcnpnmkkaaDoor
