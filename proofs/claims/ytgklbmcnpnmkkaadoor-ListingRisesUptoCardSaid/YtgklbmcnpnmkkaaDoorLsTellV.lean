/-
  LISTING: tellVersion.
-/
import Derived.Test.YtgklbmcnpnmkkaaDoorLsTell
namespace Go.Proofs.YtgklbmcnpnmkkaaDoor
open Go.RowKit

theorem heap_old {w : World} {k : Nat} {x : Obj} (o : Obj) (h : w.heap[k]? = some x) : (w.alloc o).heap[k]? = some x := (Below.heap_alloc w o k (Array.getElem?_eq_some_iff.1 h).1).trans h
def rowZC : Array Value := #[.string ⟨#[]⟩, .bool false, .bool false, .int .i64 0, .bool false, .bool false, .string ⟨#[]⟩, .string ⟨#[]⟩, .int .i64 0, .int .i64 0, .slice none 0 0, .int .i64 0, .string ⟨#[]⟩, .string ⟨#[]⟩, .string ⟨#[]⟩, .string ⟨#[]⟩, .int .i64 0, .slice none 0 0]

/-- what a row is told as: a row of one's own -/
def TellOut (k : Kind) (p : RowV) (w : World) (e : Ending) (w' : World) : Prop := ∃ q : RowV, e = .returned (.agg q.cells.toArray) ∧ q.d = told k p.d ∧ RowOwn w' w.heap.size q ∧ Below w.heap.size w w'

set_option maxHeartbeats 4000000 in
set_option maxRecDepth 100000 in
theorem tellV_any (p : RowV) (w : World) (h : RowIn w p) (hs : SizeOK p.d) :
    Calls Tryd.prog 26 #[.agg p.cells.toArray] w (TellOut .objs p w) := by
  have HC : Hid (∀ W, Below w.heap.size w W → _) := fun W hW => cloneI_any (h.blobs.later hW) hs.1
  clear h hs
  obtain ⟨⟨key, common, latest, ⟨seq, null, marker, etag, typ, size, when_, blobs⟩, ⟨useq, ubucket, ukey, utyp, uowner, uwhen, parts⟩⟩, vb, vp⟩ := p
  simp only [RowV.cells] at HC ⊢
  go_enter Tryd.func26, Tryd.ntmps26
  go_wp2_with fail
  generalize hbc : (#[Value.string ⟨key.toArray⟩, Value.bool common, Value.bool latest, Value.int .i64 seq, Value.bool null, Value.bool marker, Value.string ⟨etag.toArray⟩, Value.string ⟨typ.toArray⟩, Value.int .i64 size, Value.int .i64 when_, vb, Value.int .i64 useq, Value.string ⟨ubucket.toArray⟩, Value.string ⟨ukey.toArray⟩, Value.string ⟨utyp.toArray⟩, Value.string ⟨uowner.toArray⟩, Value.int .i64 uwhen, vp] : Array Value) = bc
  obtain ⟨w2, hw2⟩ : ∃ w2, (w.alloc (.cells bc 36)).alloc (.cells rowZC 36) = w2 := ⟨_, rfl⟩
  have b2 : Below w.heap.size w w2 := by rw [← hw2]; exact ((Below.refl _ w).alloc (Nat.le_refl _) _).alloc (by simp) _
  have hz2 : w2.heap.size = w.heap.size + 2 := by rw [← hw2]; simp
  have hb : w2.heap[w.heap.size]? = some (.cells bc 36 (0, 0)) := by rw [← hw2]; exact heap_old _ (heap_alloc_new _ _)
  have hr : w2.heap[w.heap.size + 1]? = some (.cells rowZC 36 (0, 0)) := by rw [← hw2]; exact heap_at1 _ _ _
  change Calls _ _ _ ((w.alloc (.cells bc 36)).alloc (.cells rowZC 36)) _
  rw [hw2]
  have B2 := Lib.hid b2
  clear hw2 b2
  refine (HC.out w2 B2.out).mono ?_
  rintro e w3 ⟨v, rfl, hv, b3⟩
  obtain ⟨va, vc, rfl⟩ := own_form hv
  have HV := Lib.hid hv
  have B3 := Lib.hid (B2.out.trans (b3.mono (by omega)))
  have hb3 : Hid (w3.heap[w.heap.size]? = some (.cells bc 36 (0, 0))) := (b3.block _ (by omega)).trans hb
  have hr3 : Hid (w3.heap[w.heap.size + 1]? = some (.cells rowZC 36 (0, 0))) := (b3.block _ (by omega)).trans hr
  have hz3 := b3.size
  clear hv b3 hb hr B2 HC
  have HRS : Hid ((w3.setCell ⟨w.heap.size, 10, none⟩ (.slice va blobs.length vc)).heap[w.heap.size + 1]? = some (.cells rowZC 36 (0, 0))) := (Below.heap_setCell w3 ⟨w.heap.size, 10, none⟩ (.slice va blobs.length vc) _ (by simp)).trans hr3.out
  have c0 := cell_of_heap (x := 0) hb3.out
  have c3 := cell_of_heap (x := 3) hb3.out
  have c4 := cell_of_heap (x := 4) hb3.out
  have c5 := cell_of_heap (x := 5) hb3.out
  have c6 := cell_of_heap (x := 6) hb3.out
  have c7 := cell_of_heap (x := 7) hb3.out
  have c8 := cell_of_heap (x := 8) hb3.out
  have c9 := cell_of_heap (x := 9) hb3.out
  have c10 := cell_of_heap (x := 10) hb3.out
  have f10 := free_of_heap (x := 10) hb3.out
  simp only [← hbc] at c0 c3 c4 c5 c6 c7 c8 c9 c10
  simp at c0 c3 c4 c5 c6 c7 c8 c9 c10
  go_wp2_with (refine wpList_store_row (by rfl) 36 _ _ (by rfl) (w.heap.size + 1) _ (by rfl) (by rfl) 36 rowZC (by exact HRS.out) (by kernel_rfl) (by kernel_rfl) (by kernel_rfl) ?_)
  refine bodyPost_ret (results_cell_row rfl _ _ (w.heap.size + 1) 36 _ _ _ rfl (setRow_heap _ _ _ _ _ _ (by exact HRS.out)) Tryd.underlying36 rfl (by kernel_rfl)) rfl ?_
  refine ⟨⟨told .objs ⟨key, common, latest, ⟨seq, null, marker, etag, typ, size, when_, blobs⟩, ⟨useq, ubucket, ukey, utyp, uowner, uwhen, parts⟩⟩, .slice va blobs.length vc, .slice none 0 0⟩, rfl, rfl, ⟨?_, World.ownsRow_nil _ _ _ _⟩, ?_⟩
  · refine own_base (base := w2.heap.size) (own_kept HV.out fun g hg hlt => ?_) (by omega)
    have hl := (HV.out.lt g hg).1
    rw [setRow_other _ _ _ _ (by omega), Below.heap_setCell _ _ _ _ (by simp only; omega)]
  · exact below_cell_row _ _ _ _ _ _ _ B3.out (Nat.le_refl _) (by omega)
end Go.Proofs.YtgklbmcnpnmkkaaDoor
