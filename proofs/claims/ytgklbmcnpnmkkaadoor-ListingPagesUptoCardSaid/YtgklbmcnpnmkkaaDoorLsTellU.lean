/-
  LISTING: what Uploads and Versions tell of a row.
-/
import Derived.Test.YtgklbmcnpnmkkaaDoorSm3
namespace Go.Proofs.YtgklbmcnpnmkkaaDoor
open Go.RowKit

/-- a row is stored; the world behind it by its facts alone -/
theorem wpList_store_rowN {P : Program} {ops : Array Oper} {rest : List Oper} {o : Oper} {a : Act} {w : World} {Q : Exit → Act → World → Prop} (hgd : o.guard = none) (ty : TypeId) (x y : Operand) (ho : o.op = .store ty x y)
    (g : Nat) (cells : Array Value) (hx : a.eval x = .pointer (some ⟨g, 0, none⟩)) (hy : a.eval y = .agg cells)
    (t : TypeId) (old : Array Value) (hg : w.heap[g]? = some (.cells old t (0, 0))) (hi : (P.info? ty).map (·.size) = some cells.size)
    (hold : old.size = cells.size) (h1 : cells.all (·.oneCell') = true) (p : World → Prop) (hp : p (w.setRow g cells))
    (h : ∀ W, p W → wpList P ops Q rest (a.put o.dst undef) W) : wpList P ops Q (o :: rest) a w :=
  wpList_store_row hgd ty x y ho g cells hx hy t old hg hi hold h1 (h _ hp)

set_option maxHeartbeats 4000000 in
set_option maxRecDepth 100000 in
theorem tellU_any (p : RowV) (w : World) (h : RowIn w p) (hs : SizeOK p.d) :
    Calls Tryd.prog 39 #[.agg p.cells.toArray] w (TellOut .upls p w) := by
  have HC : Hid (∀ W, Below w.heap.size w W → _) := fun W hW => cloneP_any (h.parts.later hW) hs.2
  clear h hs
  obtain ⟨⟨key, common, latest, ⟨seq, null, marker, etag, typ, size, when_, blobs⟩, ⟨useq, ubucket, ukey, utyp, uowner, uwhen, parts⟩⟩, vb, vp⟩ := p
  simp only [RowV.cells] at HC ⊢
  go_enter Tryd.func39, Tryd.ntmps39
  go_wp2_with fail
  generalize hbc : (#[Value.string ⟨key.toArray⟩, Value.bool common, Value.bool latest, Value.int .i64 seq, Value.bool null, Value.bool marker, Value.string ⟨etag.toArray⟩, Value.string ⟨typ.toArray⟩, Value.int .i64 size, Value.int .i64 when_, vb, Value.int .i64 useq, Value.string ⟨ubucket.toArray⟩, Value.string ⟨ukey.toArray⟩, Value.string ⟨utyp.toArray⟩, Value.string ⟨uowner.toArray⟩, Value.int .i64 uwhen, vp] : Array Value) = bc
  obtain ⟨w2, hw2⟩ : ∃ w2, (w.alloc (.cells bc 36)).alloc (.cells rowZC 36) = w2 := ⟨_, rfl⟩
  have b2 : Below w.heap.size w w2 := by rw [← hw2]; exact ((Below.refl _ w).alloc (Nat.le_refl _) _).alloc (by simp) _
  have hz2 : w2.heap.size = w.heap.size + 2 := by rw [← hw2]; simp
  have hb : w2.heap[w.heap.size]? = some (.cells bc 36 (0, 0)) := by rw [← hw2]; exact heap_old _ (heap_alloc_new _ _)
  have hr : w2.heap[w.heap.size + 1]? = some (.cells rowZC 36 (0, 0)) := by rw [← hw2]; exact heap_at1 _ _ _
  change Calls _ _ _ ((w.alloc (.cells bc 36)).alloc (.cells rowZC 36)) _
  rw [hw2]
  have B2 := Lib.hid b2
  clear hw2 b2
  refine (HC.out w2 B2.out).mono ?_
  rintro e w3 ⟨v, rfl, hv, b3⟩
  obtain ⟨va, vc, rfl⟩ := own_form hv
  have HV := Lib.hid hv
  have B3 := Lib.hid (B2.out.trans (b3.mono (by omega)))
  have hb3 : Hid (w3.heap[w.heap.size]? = some (.cells bc 36 (0, 0))) := (b3.block _ (by omega)).trans hb
  have hr3 : Hid (w3.heap[w.heap.size + 1]? = some (.cells rowZC 36 (0, 0))) := (b3.block _ (by omega)).trans hr
  have hz3 := b3.size
  clear hv b3 hb hr B2 HC
  have HRS : Hid ((w3.setCell ⟨w.heap.size, 17, none⟩ (.slice va parts.length vc)).heap[w.heap.size + 1]? = some (.cells rowZC 36 (0, 0))) := (Below.heap_setCell w3 ⟨w.heap.size, 17, none⟩ (.slice va parts.length vc) _ (by simp)).trans hr3.out
  have c0 := cell_of_heap (x := 0) hb3.out
  have c11 := cell_of_heap (x := 11) hb3.out
  have c12 := cell_of_heap (x := 12) hb3.out
  have c13 := cell_of_heap (x := 13) hb3.out
  have c14 := cell_of_heap (x := 14) hb3.out
  have c15 := cell_of_heap (x := 15) hb3.out
  have c16 := cell_of_heap (x := 16) hb3.out
  have c17 := cell_of_heap (x := 17) hb3.out
  have f17 := free_of_heap (x := 17) hb3.out
  simp only [← hbc] at c0 c11 c12 c13 c14 c15 c16 c17
  simp at c0 c11 c12 c13 c14 c15 c16 c17
  go_wp2_with (refine wpList_store_row (by rfl) 36 _ _ (by rfl) (w.heap.size + 1) _ (by rfl) (by rfl) 36 rowZC (by exact HRS.out) (by kernel_rfl) (by kernel_rfl) (by kernel_rfl) ?_)
  refine bodyPost_ret (results_cell_row rfl _ _ (w.heap.size + 1) 36 _ _ _ rfl (setRow_heap _ _ _ _ _ _ (by exact HRS.out)) Tryd.underlying36 rfl (by kernel_rfl)) rfl ?_
  refine ⟨⟨told .upls ⟨key, common, latest, ⟨seq, null, marker, etag, typ, size, when_, blobs⟩, ⟨useq, ubucket, ukey, utyp, uowner, uwhen, parts⟩⟩, .slice none 0 0, .slice va parts.length vc⟩, rfl, rfl, ⟨World.ownsRow_nil _ _ _ _, ?_⟩, ?_⟩
  · refine own_base (base := w2.heap.size) (own_kept HV.out fun g hg hlt => ?_) (by omega)
    have hl := (HV.out.lt g hg).1
    rw [setRow_other _ _ _ _ (by omega), Below.heap_setCell _ _ _ _ (by simp only; omega)]
  · exact below_cell_row _ _ _ _ _ _ _ B3.out (Nat.le_refl _) (by omega)
set_option maxHeartbeats 4000000 in
set_option maxRecDepth 100000 in
theorem tellL_any (p : RowV) (w : World) (h : RowIn w p) (hs : SizeOK p.d) :
    Calls Tryd.prog 25 #[.agg p.cells.toArray] w (TellOut .vers p w) := by
  have HC : Hid (∀ W, Below w.heap.size w W → _) := fun W hW => tellV_any p W (h.later hW) hs
  clear h hs
  obtain ⟨⟨key, common, latest, ver, upl⟩, vb, vp⟩ := p
  obtain ⟨bc, hbc⟩ : ∃ bc, (RowV.mk ⟨key, common, latest, ver, upl⟩ vb vp).cells.toArray = bc := ⟨_, rfl⟩
  have h2 : bc[2]? = some (.bool latest) := by rw [← hbc]; rfl
  have hbs : bc.size = 18 := by rw [← hbc]; rfl
  rw [hbc] at HC ⊢
  go_enter Tryd.func25, Tryd.ntmps25
  obtain ⟨w2, hw2⟩ : ∃ w2, (w.alloc (.cells bc 36)).alloc (.cells rowZC 36) = w2 := ⟨_, rfl⟩
  have b2 : Below w.heap.size w w2 := by rw [← hw2]; exact ((Below.refl _ w).alloc (Nat.le_refl _) _).alloc (by simp) _
  have hz2 : w2.heap.size = w.heap.size + 2 := by rw [← hw2]; simp
  have hb : Hid (w2.heap[w.heap.size]? = some (.cells bc 36 (0, 0))) := by show _ = _; rw [← hw2]; exact heap_old _ (heap_alloc_new _ _)
  have hr : Hid (w2.heap[w.heap.size + 1]? = some (.cells rowZC 36 (0, 0))) := by show _ = _; rw [← hw2]; exact heap_at1 _ _ _
  go_wp2_with (refine wpList_load_row (by rfl) 36 _ (by rfl) w.heap.size (by rfl) 36 bc (0, 0) _ (by exact heap_old _ (heap_alloc_new _ _)) Tryd.underlying36 rfl (by rw [hbs]; kernel_rfl) ?_)
  change Calls _ _ _ ((w.alloc (.cells bc 36)).alloc (.cells rowZC 36)) _
  rw [hw2]
  have B2 := Lib.hid b2
  clear hw2 b2
  refine (HC.out w2 B2.out).mono ?_
  rintro e w3 ⟨q, rfl, hq, hown, b3⟩
  obtain ⟨⟨k3, m3, l3, v3, u3⟩, vb3, vp3⟩ := q
  obtain ⟨ab3, cb3, hvb⟩ := own_form hown.blobs
  obtain ⟨ap3, cp3, hvp⟩ := own_form hown.parts
  simp only at hvb hvp
  subst hvb hvp
  obtain ⟨qc, hqc⟩ : ∃ qc, (RowV.mk ⟨k3, m3, l3, v3, u3⟩ (.slice ab3 v3.blobs.length cb3) (.slice ap3 u3.parts.length cp3)).cells.toArray = qc := ⟨_, rfl⟩
  rw [hqc]
  have HQ := Lib.hid hq
  have HQC := Lib.hid hqc
  have HO := Lib.hid hown
  have B3 := Lib.hid (B2.out.trans (b3.mono (by omega)))
  have hb3 : Hid (w3.heap[w.heap.size]? = some (.cells bc 36 (0, 0))) := (b3.block _ (by omega)).trans hb.out
  have hr3 : Hid (w3.heap[w.heap.size + 1]? = some (.cells rowZC 36 (0, 0))) := (b3.block _ (by omega)).trans hr.out
  have hz3 := b3.size
  have hqs : Hid (qc.size = 18) := by show _ = _; rw [← HQC.out]; rfl
  have hqo : Hid ((qc.all fun x => x.oneCell') = true) := by show _ = _; rw [← HQC.out, List.all_toArray]; rfl
  have hqo2 : Hid (((qc.setIfInBounds 2 (.bool latest)).all fun x => x.oneCell') = true) := by show _ = _; rw [← HQC.out, List.setIfInBounds_toArray, List.all_toArray]; rfl
  have hq2 : Hid (qc[2]? = some (.bool l3)) := by show _ = _; rw [← HQC.out]; rfl
  have H2 := Lib.hid h2
  have HBS := Lib.hid hbs
  clear hq hown b3 hb hr B2 HC hqc h2 hbs
  have hz4 := (Array.getElem?_eq_some_iff.1 hr3.out).1
  have P5 : Hid ((fun W : World => W.heap[w.heap.size]? = some (.cells bc 36 (0, 0)) ∧ W.heap[w.heap.size + 1]? = some (.cells rowZC 36 (0, 0)) ∧ W.heap[w3.heap.size]? = some (.cells qc 36 (0, 0)) ∧ Below w3.heap.size w3 W) ((w3.alloc (.cells rowZC 36)).setRow w3.heap.size qc)) := by
    rw [setRow_alloc _ _ _ _ _ rfl]
    exact ⟨heap_old _ hb3.out, heap_old _ hr3.out, heap_alloc_new _ _, below_alloc (Below.refl _ _) (Nat.le_refl _) _⟩
  clear hb3 hr3
  go_wp2_with (first
    | (refine wpList_store_rowN (by rfl) 36 _ _ (by rfl) w3.heap.size qc (by rfl) (by rfl) 36 rowZC (by exact heap_alloc_new _ _) (by rw [hqs.out]; kernel_rfl) (by rw [hqs.out]; rfl) (by exact hqo.out) (fun W : World => W.heap[w.heap.size]? = some (.cells bc 36 (0, 0)) ∧ W.heap[w.heap.size + 1]? = some (.cells rowZC 36 (0, 0)) ∧ W.heap[w3.heap.size]? = some (.cells qc 36 (0, 0)) ∧ Below w3.heap.size w3 W) (by exact P5.out) ?_
       clear P5
       rintro W5 ⟨hb5, hr5, hq5, b5⟩
       have c2 : W5.cell? ⟨w.heap.size, 2, none⟩ = some (.bool latest) := (cell_of_heap (x := 2) hb5).trans H2.out
       have c2e : W5.cell? ⟨w3.heap.size, 2, none⟩ = some (.bool l3) := (cell_of_heap (x := 2) hq5).trans hq2.out
       have f2 : W5.frozen? ⟨w3.heap.size, 2, none⟩ = false := free_of_heap hq5
       have Q5 := Lib.hid hq5
       have R5 := Lib.hid hr5
       have D5 := Lib.hid b5
       clear hb5 hr5 hq5 b5)
    | (refine wpList_load_row (by rfl) 36 _ (by rfl) w3.heap.size (by rfl) 36 (qc.setIfInBounds 2 (.bool latest)) (0, 0) _ (by exact heap_set Q5.out _) Tryd.underlying36 rfl (by rw [Array.size_setIfInBounds, hqs.out]; kernel_rfl) ?_)
    | (refine wpList_store_row (by rfl) 36 _ _ (by rfl) (w.heap.size + 1) (qc.setIfInBounds 2 (.bool latest)) (by rfl) (by rfl) 36 rowZC (by exact (Below.heap_setCell _ _ _ _ (by simp only; omega)).trans R5.out) (by rw [Array.size_setIfInBounds, hqs.out]; kernel_rfl) (by rw [Array.size_setIfInBounds, hqs.out]; rfl) (by exact hqo2.out) ?_))
  refine bodyPost_ret (results_cell_row rfl _ _ (w.heap.size + 1) 36 _ _ _ rfl (setRow_heap _ _ _ _ _ _ ((Below.heap_setCell _ _ _ _ (by simp only; omega)).trans R5.out)) Tryd.underlying36 rfl (by rw [Array.size_setIfInBounds, hqs.out]; kernel_rfl)) rfl ?_
  have e3 := HQ.out
  simp only [told, rowZ, RowD.mk.injEq] at e3
  obtain ⟨rfl, rfl, rfl, rfl, rfl⟩ := e3
  have hb5 := D5.out
  refine ⟨⟨told .vers ⟨k3, common, latest, v3, upl⟩, .slice ab3 v3.blobs.length cb3, .slice ap3 uplZ.parts.length cp3⟩, ?_, rfl, ?_, ?_⟩
  · rw [← HQC.out, List.setIfInBounds_toArray]; rfl
  · refine RowOwn.base (base := w2.heap.size) ?_ (by omega)
    have hbl := HO.out.blobs
    have hpl := HO.out.parts
    have key : ∀ g, w2.heap.size ≤ g → g < w3.heap.size → ((W5.setCell ⟨w3.heap.size, 2, none⟩ (.bool latest)).setRow (w.heap.size + 1) (qc.setIfInBounds 2 (.bool latest))).heap[g]? = w3.heap[g]? := fun g h1 h2 => by
      rw [setRow_other _ _ _ _ (by omega), Below.heap_setCell _ _ _ _ (by simp only; omega), hb5.block g h2]
    exact ⟨own_kept hbl fun g hg hlt => key g (hbl.lt g hg).1 hlt, own_kept hpl fun g hg hlt => key g (hpl.lt g hg).1 hlt⟩
  · refine below_cell_row _ _ _ _ _ _ _ (B3.out.trans (hb5.mono (by omega))) (by simp only; omega) (by omega)

set_option maxHeartbeats 4000000 in
theorem seqL_any (p : RowV) (w : World) : Calls Tryd.prog 27 #[.agg p.cells.toArray] w fun e w' => e = .returned (.int .i64 p.d.ver.seq) ∧ Below w.heap.size w w' := by
  obtain ⟨⟨key, common, latest, ver, upl⟩, vb, vp⟩ := p
  simp only [RowV.cells]
  go_enter Tryd.func27, Tryd.ntmps27
  go_wp2_with fail
  go_ret
  exact ⟨rfl, below_alloc (Below.refl _ _) (Nat.le_refl _) _⟩
set_option maxHeartbeats 4000000 in
theorem seqU_any (p : RowV) (w : World) : Calls Tryd.prog 41 #[.agg p.cells.toArray] w fun e w' => e = .returned (.int .i64 p.d.upl.seq) ∧ Below w.heap.size w w' := by
  obtain ⟨⟨key, common, latest, ver, upl⟩, vb, vp⟩ := p
  simp only [RowV.cells]
  go_enter Tryd.func41, Tryd.ntmps41
  go_wp2_with fail
  go_ret
  exact ⟨rfl, below_alloc (Below.refl _ _) (Nat.le_refl _) _⟩
set_option maxHeartbeats 4000000 in
theorem seqO_any (p : RowV) (w : World) : Calls Tryd.prog 30 #[.agg p.cells.toArray] w fun e w' => e = .returned (.int .i64 0) ∧ Below w.heap.size w w' := by
  obtain ⟨⟨key, common, latest, ver, upl⟩, vb, vp⟩ := p
  simp only [RowV.cells]
  go_enter Tryd.func30, Tryd.ntmps30
  go_wp2_with fail
  go_ret
  exact ⟨rfl, below_alloc (Below.refl _ _) (Nat.le_refl _) _⟩
theorem afterL_any (a b : Int) (w : World) : Calls Tryd.prog 29 #[.int .i64 a, .int .i64 b] w fun e w' => e = .returned (.bool (decide (a < b))) ∧ Below w.heap.size w w' := by
  go_enter Tryd.func29, Tryd.ntmps29
  go_wp2_with fail
  go_ret
  exact ⟨rfl, Below.refl _ _⟩
theorem afterU_any (a b : Int) (w : World) : Calls Tryd.prog 42 #[.int .i64 a, .int .i64 b] w fun e w' => e = .returned (.bool (decide (b < a))) ∧ Below w.heap.size w w' := by
  go_enter Tryd.func42, Tryd.ntmps42
  go_wp2_with fail
  go_ret
  exact ⟨rfl, Below.refl _ _⟩

/-- a function of the program's, that may be called by its value -/
def GoFun (f : Nat) : Prop := ∃ fn : Func, Tryd.prog.funcs[f]? = some fn ∧ (fn.name == "runtime.NumGoroutine") = false ∧ fn.body.isNone = false
/-- what of a row counts: three functions -/
structure ViewIs (k : Kind) (ft fs : Nat) (va : Value) : Prop where
  gt : GoFun ft
  gs : GoFun fs
  tell : ∀ (p : RowV) (w : World), RowIn w p → SizeOK p.d → Calls Tryd.prog ft #[.agg p.cells.toArray] w (TellOut k p w)
  seq : ∀ (p : RowV) (w : World), Calls Tryd.prog fs #[.agg p.cells.toArray] w fun e w' => e = .returned (.int .i64 (seqOf k p.d)) ∧ Below w.heap.size w w'
  after : k ≠ .objs → ∃ fa, va = .func (.func fa) #[] #[] ∧ GoFun fa ∧ ∀ (a b : Int) (w : World), Calls Tryd.prog fa #[.int .i64 a, .int .i64 b] w fun e w' => e = .returned (.bool (behindN k a b)) ∧ Below w.heap.size w w'
theorem view_objs (va : Value) : ViewIs .objs 26 30 va :=
  ⟨⟨_, Tryd.func26, by decide, rfl⟩, ⟨_, Tryd.func30, by decide, rfl⟩, tellV_any, seqO_any, fun h => absurd rfl h⟩
theorem view_vers : ViewIs .vers 25 27 (.func (.func 29) #[] #[]) :=
  ⟨⟨_, Tryd.func25, by decide, rfl⟩, ⟨_, Tryd.func27, by decide, rfl⟩, tellL_any, seqL_any, fun _ => ⟨_, rfl, ⟨_, Tryd.func29, by decide, rfl⟩, afterL_any⟩⟩
theorem view_upls : ViewIs .upls 39 41 (.func (.func 42) #[] #[]) :=
  ⟨⟨_, Tryd.func39, by decide, rfl⟩, ⟨_, Tryd.func41, by decide, rfl⟩, tellU_any, seqU_any, fun _ => ⟨_, rfl, ⟨_, Tryd.func42, by decide, rfl⟩, afterU_any⟩⟩
end Go.Proofs.YtgklbmcnpnmkkaaDoor
