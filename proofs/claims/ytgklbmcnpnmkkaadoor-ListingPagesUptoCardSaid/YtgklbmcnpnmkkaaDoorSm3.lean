/-
  SEVERAL SMALL TEXTS IN ONE.
-/
import Derived.Test.YtgklbmcnpnmkkaaDoorBase
import Derived.Test.YtgklbmcnpnmkkaaDoorLsRow
import Derived.Test.YtgklbmcnpnmkkaaDoorShelf
/-
  A call of a Go function at an operation: by its contract, without a walk.
-/
namespace Go.Proofs.YtgklbmcnpnmkkaaDoor
open Go.RowKit

theorem wp_call_go {P : Program} {o : Oper} {a : Act} {w : World} {K : Act → World → Prop} {Q : Exit → Act → World → Prop} {f : Nat} {fn : Func} (hf : P.funcs[f]? = some fn) (hn : (fn.name == "runtime.NumGoroutine") = false) (hb : fn.body.isNone = false)
    {xs : List Operand} {tys : Array TypeId}
    (ho : o.op = .call { callee := .value (.func f), args := xs.toArray, argTypes := tys }) {vs : List Value} {R : Ending → World → Prop} (hc : Calls P f vs.toArray w R) (hv : xs.map a.eval = vs)
    (h : ∀ e w', R e w' → ∃ v, e = .returned v ∧ K (a.put o.dst v) w') : o.wp P a w K Q := by
  have hx : (execOp a.eval o).run P w = .ok (.enter f vs.toArray) w := by
    unfold execOp
    simp [ho, resolve, invoke, hv, Act.eval, Deferred.ofValue, callFunc]
    simp [hf]
    have hn' : ¬ fn.name = "runtime.NumGoroutine" := by simpa using hn
    cases hbd : fn.body with
    | none => rw [hbd] at hb; cases hb
    | some b => simp [hn']
  unfold Oper.wp
  rw [hx, Oper.upon_enter]
  refine hc.mono ?_
  intro e w' hR
  obtain ⟨v, rfl, hk⟩ := h e w' hR
  exact hk

end Go.Proofs.YtgklbmcnpnmkkaaDoor

/-
  LISTING: what a row is told as (the functions that Objects, Versions, Uploads hand to page).
-/
namespace Go.Proofs.YtgklbmcnpnmkkaaDoor
open Go.RowKit

theorem flatten_at {sz : Nat} (hz : 0 < sz) : ∀ {rows : List (List Value)} {j : Nat} {u : Value}, (∀ r ∈ rows, r.length = sz) → rows.flatten[j]? = some u → ∃ i k r, j = i * sz + k ∧ rows[i]? = some r ∧ r[k]? = some u
  | [], j, u, _, h => by simp at h
  | r :: rows, j, u, hs, h => by
    have h0 := hs r (by simp)
    rw [List.flatten_cons] at h
    by_cases hj : j < sz
    · rw [List.getElem?_append_left (by omega)] at h
      exact ⟨0, j, r, by omega, rfl, h⟩
    · rw [List.getElem?_append_right (by omega), h0] at h
      obtain ⟨i, k, r', h1, h2, h3⟩ := flatten_at hz (fun r hr => hs r (by simp [hr])) h
      exact ⟨i + 1, k, r', by rw [Nat.add_mul]; omega, by simpa using h2, h3⟩

theorem info_int : ∃ i, Tryd.prog.info? 3 = some i ∧ i.zero = some (.int .i64 0) ∧ i.size = 1 ∧ i.bytes = 8 :=
  info_parts (show (Tryd.prog.info? 3).map (fun i => (i.zero, i.size, i.bytes)) = some (some (.int .i64 0), 1, 8) by kernel_rfl)
theorem info_part : ∃ i, Tryd.prog.info? 68 = some i ∧ i.zero = some (.agg #[.int .i64 0, .int .i64 0, .int .i64 0, .string ⟨#[]⟩, .int .i64 0]) ∧ i.size = 5 ∧ i.bytes = 48 :=
  info_parts (show (Tryd.prog.info? 68).map (fun i => (i.zero, i.size, i.bytes)) = some (some (.agg #[.int .i64 0, .int .i64 0, .int .i64 0, .string ⟨#[]⟩, .int .i64 0]), 5, 48) by kernel_rfl)

theorem blob_rows (l : List Int) : ∀ r ∈ blobCells l, r.length = 1 := by
  intro r hr
  obtain ⟨_, _, rfl⟩ := List.mem_map.1 hr
  rfl
theorem part_rows (l : List PartD) : ∀ r ∈ partCells l, r.length = 5 := by
  intro r hr
  obtain ⟨_, _, rfl⟩ := List.mem_map.1 hr
  rfl
theorem blob_one (l : List Int) : ∀ u ∈ (blobCells l).flatten, u.oneCell' = true := by
  intro u hu
  obtain ⟨r, hr, hu⟩ := List.mem_flatten.1 hu
  obtain ⟨x, _, rfl⟩ := List.mem_map.1 hr
  rw [List.mem_singleton] at hu
  subst hu
  rfl
theorem part_one (l : List PartD) : ∀ u ∈ (partCells l).flatten, u.oneCell' = true := by
  intro u hu
  obtain ⟨r, hr, hu⟩ := List.mem_flatten.1 hu
  obtain ⟨x, _, rfl⟩ := List.mem_map.1 hr
  simp only [PartD.cells, List.mem_cons, List.not_mem_nil, or_false] at hu
  rcases hu with rfl | rfl | rfl | rfl | rfl <;> rfl

set_option maxHeartbeats 4000000 in
set_option maxRecDepth 100000 in
theorem cloneI_empty (a : Option Addr) (c : Nat) (w : World) :
    Calls Tryd.prog 45 #[.slice a 0 c] w fun e w' => ∃ v, e = .returned v ∧ w'.ownsRow w.heap.size 3 1 v 0 [] ∧ Below w.heap.size w w' := by
  cases a with
  | none =>
    refine (Tryd.slices_Clone_nil_f45 0 c w).mono ?_
    rintro e w' ⟨rfl, rfl⟩
    exact ⟨_, rfl, World.ownsRow_nil _ _ _ _, Below.refl _ _⟩
  | some x =>
    have he := fun W => Lib.run_eql_slice_nil (P := Tryd.prog) W 29 3 (some x) 0 c 0 0 Tryd.underlying29
    go_enter Tryd.func45, Tryd.ntmps45
    go_wp2_with fail
    go_ret
    exact ⟨_, rfl, ⟨rfl, .inr ⟨w.heap.size, 0, #[], rfl, Nat.le_refl _, heap_alloc_new _ _, Nat.le_refl _, by simp [maxLen], rfl, rfl⟩⟩, below_alloc (Below.refl _ _) (Nat.le_refl _) _⟩
set_option maxHeartbeats 4000000 in
set_option maxRecDepth 100000 in
theorem cloneP_empty (a : Option Addr) (c : Nat) (w : World) :
    Calls Tryd.prog 40 #[.slice a 0 c] w fun e w' => ∃ v, e = .returned v ∧ w'.ownsRow w.heap.size 68 5 v 0 [] ∧ Below w.heap.size w w' := by
  cases a with
  | none =>
    refine (Tryd.slices_Clone_nil_f40 0 c w).mono ?_
    rintro e w' ⟨rfl, rfl⟩
    exact ⟨_, rfl, World.ownsRow_nil _ _ _ _, Below.refl _ _⟩
  | some x =>
    have he := fun W => Lib.run_eql_slice_nil (P := Tryd.prog) W 32 68 (some x) 0 c 0 0 Tryd.underlying32
    go_enter Tryd.func40, Tryd.ntmps40
    go_wp2_with fail
    go_ret
    exact ⟨_, rfl, ⟨rfl, .inr ⟨w.heap.size, 0, #[], rfl, Nat.le_refl _, heap_alloc_new _ _, Nat.le_refl _, by simp [maxLen], rfl, rfl⟩⟩, below_alloc (Below.refl _ _) (Nat.le_refl _) _⟩
set_option maxRecDepth 100000 in
theorem cloneI_any {w : World} {v : Value} {l : List Int} (h : SlAt w 1 v (blobCells l)) (hl : l.length ≤ 17592186043904) :
    Calls Tryd.prog 45 #[v] w fun e w' => ∃ v, e = .returned v ∧ w'.ownsRow w.heap.size 3 1 v l.length (blobCells l).flatten ∧ Below w.heap.size w w' := by
  obtain ⟨i0, hi, hz0, hz1, hz2⟩ := info_int
  obtain ⟨a, c, rfl, _, hc⟩ := h
  cases l with
  | nil => exact cloneI_empty a c w
  | cons x l =>
    obtain ⟨b, off, rfl, _⟩ := hc 0 _ rfl
    have hlen : (blobCells (x :: l)).length = (x :: l).length := by simp [blobCells]
    rw [hlen]
    refine (Tryd.slices_Clone_f45 i0 _ 1 8 hi hz0 hz1 hz2 rfl (by decide) (fun w => by first | rfl | kernel_rfl) b off (x :: l).length c (blobCells (x :: l)).flatten w (by rw [flatten_len (blob_rows _), hlen]) (by simp only [maxLen]; omega) (by omega) (fun j u hj => ?_) (blob_one _)).mono ?_
    · obtain ⟨i, k, r, rfl, h1, h2⟩ := flatten_at (by decide) (blob_rows _) hj
      obtain ⟨b', off', e, k0⟩ := hc i r h1
      injection e with e
      injection e with e1 e2 _
      subst e1 e2
      rw [← Nat.add_assoc]
      exact k0 k u h2
    · rintro e w' ⟨v', rfl, h1, _, h3⟩
      exact ⟨v', rfl, h1, h3⟩
set_option maxRecDepth 100000 in
theorem cloneP_any {w : World} {v : Value} {l : List PartD} (h : SlAt w 5 v (partCells l)) (hl : l.length ≤ 2932031007317) :
    Calls Tryd.prog 40 #[v] w fun e w' => ∃ v, e = .returned v ∧ w'.ownsRow w.heap.size 68 5 v l.length (partCells l).flatten ∧ Below w.heap.size w w' := by
  obtain ⟨i0, hi, hz0, hz1, hz2⟩ := info_part
  obtain ⟨a, c, rfl, _, hc⟩ := h
  cases l with
  | nil => exact cloneP_empty a c w
  | cons x l =>
    obtain ⟨b, off, rfl, _⟩ := hc 0 _ rfl
    have hlen : (partCells (x :: l)).length = (x :: l).length := by simp [partCells]
    rw [hlen]
    refine (Tryd.slices_Clone_f40 i0 _ 5 48 hi hz0 hz1 hz2 rfl (by decide) (fun w => by first | rfl | kernel_rfl) b off (x :: l).length c (partCells (x :: l)).flatten w (by rw [flatten_len (part_rows _), hlen]) (by simp only [maxLen]; omega) (by omega) (fun j u hj => ?_) (part_one _)).mono ?_
    · obtain ⟨i, k, r, rfl, h1, h2⟩ := flatten_at (by decide) (part_rows _) hj
      obtain ⟨b', off', e, k0⟩ := hc i r h1
      injection e with e
      injection e with e1 e2 _
      subst e1 e2
      rw [← Nat.add_assoc]
      exact k0 k u h2
    · rintro e w' ⟨v', rfl, h1, _, h3⟩
      exact ⟨v', rfl, h1, h3⟩
end Go.Proofs.YtgklbmcnpnmkkaaDoor

/-
  LISTING: tellVersion.
-/
namespace Go.Proofs.YtgklbmcnpnmkkaaDoor
open Go.RowKit

theorem heap_old {w : World} {k : Nat} {x : Obj} (o : Obj) (h : w.heap[k]? = some x) : (w.alloc o).heap[k]? = some x := (Below.heap_alloc w o k (Array.getElem?_eq_some_iff.1 h).1).trans h
def rowZC : Array Value := #[.string ⟨#[]⟩, .bool false, .bool false, .int .i64 0, .bool false, .bool false, .string ⟨#[]⟩, .string ⟨#[]⟩, .int .i64 0, .int .i64 0, .slice none 0 0, .int .i64 0, .string ⟨#[]⟩, .string ⟨#[]⟩, .string ⟨#[]⟩, .string ⟨#[]⟩, .int .i64 0, .slice none 0 0]

/-- what a row is told as: a row of one's own -/
def TellOut (k : Kind) (p : RowV) (w : World) (e : Ending) (w' : World) : Prop := ∃ q : RowV, e = .returned (.agg q.cells.toArray) ∧ q.d = told k p.d ∧ RowOwn w' w.heap.size q ∧ Below w.heap.size w w'

set_option maxHeartbeats 4000000 in
set_option maxRecDepth 100000 in
theorem tellV_any (p : RowV) (w : World) (h : RowIn w p) (hs : SizeOK p.d) :
    Calls Tryd.prog 26 #[.agg p.cells.toArray] w (TellOut .objs p w) := by
  have HC : Hid (∀ W, Below w.heap.size w W → _) := fun W hW => cloneI_any (h.blobs.later hW) hs.1
  clear h hs
  obtain ⟨⟨key, common, latest, ⟨seq, null, marker, etag, typ, size, when_, blobs⟩, ⟨useq, ubucket, ukey, utyp, uowner, uwhen, parts⟩⟩, vb, vp⟩ := p
  simp only [RowV.cells] at HC ⊢
  go_enter Tryd.func26, Tryd.ntmps26
  go_wp2_with fail
  generalize hbc : (#[Value.string ⟨key.toArray⟩, Value.bool common, Value.bool latest, Value.int .i64 seq, Value.bool null, Value.bool marker, Value.string ⟨etag.toArray⟩, Value.string ⟨typ.toArray⟩, Value.int .i64 size, Value.int .i64 when_, vb, Value.int .i64 useq, Value.string ⟨ubucket.toArray⟩, Value.string ⟨ukey.toArray⟩, Value.string ⟨utyp.toArray⟩, Value.string ⟨uowner.toArray⟩, Value.int .i64 uwhen, vp] : Array Value) = bc
  obtain ⟨w2, hw2⟩ : ∃ w2, (w.alloc (.cells bc 36)).alloc (.cells rowZC 36) = w2 := ⟨_, rfl⟩
  have b2 : Below w.heap.size w w2 := by rw [← hw2]; exact ((Below.refl _ w).alloc (Nat.le_refl _) _).alloc (by simp) _
  have hz2 : w2.heap.size = w.heap.size + 2 := by rw [← hw2]; simp
  have hb : w2.heap[w.heap.size]? = some (.cells bc 36 (0, 0)) := by rw [← hw2]; exact heap_old _ (heap_alloc_new _ _)
  have hr : w2.heap[w.heap.size + 1]? = some (.cells rowZC 36 (0, 0)) := by rw [← hw2]; exact heap_at1 _ _ _
  change Calls _ _ _ ((w.alloc (.cells bc 36)).alloc (.cells rowZC 36)) _
  rw [hw2]
  have B2 := Lib.hid b2
  clear hw2 b2
  refine (HC.out w2 B2.out).mono ?_
  rintro e w3 ⟨v, rfl, hv, b3⟩
  obtain ⟨va, vc, rfl⟩ := own_form hv
  have HV := Lib.hid hv
  have B3 := Lib.hid (B2.out.trans (b3.mono (by omega)))
  have hb3 : Hid (w3.heap[w.heap.size]? = some (.cells bc 36 (0, 0))) := (b3.block _ (by omega)).trans hb
  have hr3 : Hid (w3.heap[w.heap.size + 1]? = some (.cells rowZC 36 (0, 0))) := (b3.block _ (by omega)).trans hr
  have hz3 := b3.size
  clear hv b3 hb hr B2 HC
  have HRS : Hid ((w3.setCell ⟨w.heap.size, 10, none⟩ (.slice va blobs.length vc)).heap[w.heap.size + 1]? = some (.cells rowZC 36 (0, 0))) := (Below.heap_setCell w3 ⟨w.heap.size, 10, none⟩ (.slice va blobs.length vc) _ (by simp)).trans hr3.out
  have c0 := cell_of_heap (x := 0) hb3.out
  have c3 := cell_of_heap (x := 3) hb3.out
  have c4 := cell_of_heap (x := 4) hb3.out
  have c5 := cell_of_heap (x := 5) hb3.out
  have c6 := cell_of_heap (x := 6) hb3.out
  have c7 := cell_of_heap (x := 7) hb3.out
  have c8 := cell_of_heap (x := 8) hb3.out
  have c9 := cell_of_heap (x := 9) hb3.out
  have c10 := cell_of_heap (x := 10) hb3.out
  have f10 := free_of_heap (x := 10) hb3.out
  simp only [← hbc] at c0 c3 c4 c5 c6 c7 c8 c9 c10
  simp at c0 c3 c4 c5 c6 c7 c8 c9 c10
  go_wp2_with (refine wpList_store_row (by rfl) 36 _ _ (by rfl) (w.heap.size + 1) _ (by rfl) (by rfl) 36 rowZC (by exact HRS.out) (by kernel_rfl) (by kernel_rfl) (by kernel_rfl) ?_)
  refine bodyPost_ret (results_cell_row rfl _ _ (w.heap.size + 1) 36 _ _ _ rfl (setRow_heap _ _ _ _ _ _ (by exact HRS.out)) Tryd.underlying36 rfl (by kernel_rfl)) rfl ?_
  refine ⟨⟨told .objs ⟨key, common, latest, ⟨seq, null, marker, etag, typ, size, when_, blobs⟩, ⟨useq, ubucket, ukey, utyp, uowner, uwhen, parts⟩⟩, .slice va blobs.length vc, .slice none 0 0⟩, rfl, rfl, ⟨?_, World.ownsRow_nil _ _ _ _⟩, ?_⟩
  · refine own_base (base := w2.heap.size) (own_kept HV.out fun g hg hlt => ?_) (by omega)
    have hl := (HV.out.lt g hg).1
    rw [setRow_other _ _ _ _ (by omega), Below.heap_setCell _ _ _ _ (by simp only; omega)]
  · exact below_cell_row _ _ _ _ _ _ _ B3.out (Nat.le_refl _) (by omega)
end Go.Proofs.YtgklbmcnpnmkkaaDoor
