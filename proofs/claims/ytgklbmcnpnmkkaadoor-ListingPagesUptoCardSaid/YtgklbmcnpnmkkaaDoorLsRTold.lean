/-
  storehouseref20.told. (Printed by wip/gen/lsrtold.py.)
-/
import Derived.Test.YtgklbmcnpnmkkaaDoorLsArms
import Derived.Test.YtgklbmcnpnmkkaaDoorSm6
namespace Go.Proofs.YtgklbmcnpnmkkaaDoor
open Go.RowKit Go.Lib

/-- the three rows of told -/
structure T3 (w W : World) (bc oc : Array Value) : Prop where
  b : W.heap[w.heap.size]? = some (.cells bc 36 (0, 0))
  r : W.heap[w.heap.size + 1]? = some (.cells rowZC 36 (0, 0))
  o : W.heap[w.heap.size + 2]? = some (.cells oc 36 (0, 0))
  below : Below w.heap.size w W
theorem T3.set {w W : World} {bc oc : Array Value} (h : T3 w W bc oc) {new oc' : Array Value} (he : new = oc') : T3 w (W.setRow (w.heap.size + 2) new) bc oc' := by
  subst he
  exact ⟨(setRow_other _ _ _ _ (by omega)).trans h.b, (setRow_other _ _ _ _ (by omega)).trans h.r, setRow_heap _ _ _ _ _ _ h.o, below_one_row _ _ _ _ _ h.below (by omega)⟩
theorem T3.later {w W W' : World} {bc oc : Array Value} (h : T3 w W bc oc) (hb : Below W.heap.size W W') : T3 w W' bc oc :=
  have hs := (Array.getElem?_eq_some_iff.1 h.o).1
  ⟨(hb.block _ (by omega)).trans h.b, (hb.block _ (by omega)).trans h.r, (hb.block _ (by omega)).trans h.o, h.below.trans (hb.mono h.below.size)⟩
theorem T3.three {w W : World} {bc oc : Array Value} (h : T3 w W bc oc) : w.heap.size + 3 ≤ W.heap.size := by
  have hs := (Array.getElem?_eq_some_iff.1 h.o).1
  omega
theorem T3.start (w : World) (bc oc : Array Value) : T3 w ((((w.alloc (.cells bc 36)).alloc (.cells rowZC 36)).alloc (.cells rowZC 36)).setRow (w.heap.size + 2) oc) bc oc := by
  rw [setRow_alloc _ _ _ _ _ (by simp)]
  exact ⟨heap_old _ (heap_old _ (heap_alloc_new _ _)), heap_old _ (heap_at1 _ _ _), heap_at _ _ (by simp), (((Below.refl _ w).alloc (Nat.le_refl _) _).alloc (by simp) _).alloc (by simp; omega) _⟩
theorem own_set {w : World} {base : Nat} {e : TypeId} {sz : Nat} {v : Value} {n : Nat} {xs : List Value} (h : w.ownsRow base e sz v n xs) {g : Nat} (new : Array Value) (hg : g < base) : (w.setRow g new).ownsRow base e sz v n xs :=
  own_kept h fun b hb _ => setRow_other _ _ _ _ (by have := (h.lt b hb).1; omega)
theorem cell_at {w : World} {g x : Nat} {cur : Array Value} {t : TypeId} {v : Value} (h : w.heap[g]? = some (.cells cur t (0, 0))) (hv : cur[x]? = some v) : w.cell? ⟨g, x, none⟩ = some v := (cell_of_heap h).trans hv

def verC (d : VerD) (vb : Value) : List Value := [.int .i64 d.seq, .bool d.null, .bool d.marker, .string ⟨d.etag.toArray⟩, .string ⟨d.type.toArray⟩, .int .i64 d.size, .int .i64 d.when_, vb]
def uplC (d : UplD) (vp : Value) : List Value := [.int .i64 d.seq, .string ⟨d.bucket.toArray⟩, .string ⟨d.key.toArray⟩, .string ⟨d.type.toArray⟩, .string ⟨d.owner.toArray⟩, .int .i64 d.when_, vp]
def nilV : Value := .slice none 0 0

set_option maxHeartbeats 4000000 in
set_option maxRecDepth 100000 in
theorem rTold_any (k : Kind) (p : RowV) (w : World) (h : RowIn w p) (hs : SizeOK p.d) :
    Calls Tryd.prog 71 #[.agg p.cells.toArray, .int .i64 (kindI k)] w (TellOut k p w) := by
  obtain ⟨⟨key, common, latest, ver, upl⟩, vb, vp⟩ := p
  obtain ⟨ab, cb, hvb, hlb, -⟩ := h.blobs
  obtain ⟨ap, cp, hvp, hlp, -⟩ := h.parts
  simp only at hvb hvp
  subst hvb hvp
  rw [show (blobCells ver.blobs).length = ver.blobs.length by simp [blobCells], show (partCells upl.parts).length = upl.parts.length by simp [partCells]] at *
  have HI := Lib.hid h
  have HS := Lib.hid hs
  clear h hs hlb hlp
  obtain ⟨bc, hbc⟩ : ∃ bc, (RowV.mk ⟨key, common, latest, ver, upl⟩ (.slice ab ver.blobs.length cb) (.slice ap upl.parts.length cp)).cells.toArray = bc := ⟨_, rfl⟩
  have h0 : bc[0]? = some (.string ⟨key.toArray⟩) := by rw [← hbc]; rfl
  have hbs : bc.size = 18 := by rw [← hbc]; rfl
  rw [hbc]
  have HB := Lib.hid hbc
  have HBS := Lib.hid hbs
  clear hbc hbs
  go_enter Tryd.func71, Tryd.ntmps71
  go_upto_region 2 with (refine wpList_store_rowN (by rfl) 36 _ _ (by rfl) (w.heap.size + 2) (RowV.mk { rowZ with key := key } nilV nilV).cells.toArray (by rfl) (by rfl) 36 rowZC (by exact heap_at _ _ (by simp)) (by kernel_rfl) (by rfl) (by kernel_rfl) (fun W => T3 w W bc (RowV.mk { rowZ with key := key } nilV nilV).cells.toArray) (T3.start _ _ _) ?_; rintro W1 T1)
  cases k with
  | upls =>
    simp only [kindI]
    go_upto_region 8 with (fail)
    have HU : Hid (W1.rangeAt w.heap.size 11 (uplC upl (.slice ap upl.parts.length cp))) := range_of_heap T1.b (by rw [← HB.out]; exact fun j v hv => by rcases j with _ | _ | _ | _ | _ | _ | _ | j <;> first | exact hv | (simp [uplC] at hv))
    go_upto_region 9 with (first
      | (refine wpList_load_mid (by rfl) 34 _ (by rfl) w.heap.size 11 (by rfl) (uplC upl (.slice ap upl.parts.length cp)) _ HU.out Tryd.underlying34 rfl (by kernel_rfl) ?_)
      | (refine wpList_store_partN (by rfl) 34 _ _ (by rfl) (w.heap.size + 2) 11 (uplC upl (.slice ap upl.parts.length cp)) (by rfl) (by rfl) 36 _ (by exact T1.o) (by exact Nat.le_of_ble_eq_true rfl) (by kernel_rfl) (by kernel_rfl) (fun W => T3 w W bc (RowV.mk { rowZ with key := key, upl := upl } nilV (.slice ap upl.parts.length cp)).cells.toArray) (T1.set (by rfl)) ?_; rintro W2 T2))
    have T2 := Lib.hid T2
    clear T1
    go_upto_region 10 with (refine wpList_store_cellN (by rfl) 32 _ _ (by rfl) (w.heap.size + 2) 17 nilV (by rfl) (by rfl) (by rfl) 36 _ (by exact T2.out.o) (by exact Nat.le_of_ble_eq_true rfl) (by kernel_rfl) (fun W => T3 w W bc (RowV.mk { rowZ with key := key, upl := upl } nilV nilV).cells.toArray) (T2.out.set (by rfl)) ?_; rintro W3 U3)
    have c1 : W3.cell? ⟨w.heap.size + 2, 17, none⟩ = some nilV := cell_at U3.o rfl
    have c2 : W3.cell? ⟨w.heap.size, 17, none⟩ = some (.slice ap upl.parts.length cp) := cell_at U3.b (by rw [← HB.out]; rfl)
    have HS3 := Lib.hid (HI.out.parts.later U3.below)
    have U3 := Lib.hid U3
    clear T2
    unfold nilV at c1
    go_upto_region 11 with (first
      | (refine wpList_append_sl (by rfl) _ _ 32 (by rfl) 68 Tryd.underlying32 info_part (by rfl) (by decide) (by rfl) (by rfl) HS3.out (part_rows _) (part_one _) (parts_maxLen HS.out.2).1 (parts_maxLen HS.out.2).2 ?_
         intro v4 w4 hv4 b4
         rw [show (partCells upl.parts).length = upl.parts.length by simp [partCells]] at hv4
         obtain ⟨va, vc, rfl⟩ := own_form hv4
         have T4 := Lib.hid (And.intro (U3.out.later b4) (own_base hv4 U3.out.three))
         clear c1 c2 hv4 b4)
      | (refine wpList_store_cellN (by rfl) 32 _ _ (by rfl) (w.heap.size + 2) 17 (.slice va upl.parts.length vc) (by rfl) (by rfl) (by rfl) 36 _ (by exact T4.out.1.o) (by exact Nat.le_of_ble_eq_true rfl) (by kernel_rfl) (fun W => T3 w W bc (RowV.mk { rowZ with key := key, upl := upl } nilV (.slice va upl.parts.length vc)).cells.toArray ∧ W.ownsRow (w.heap.size + 3) 68 5 (.slice va upl.parts.length vc) upl.parts.length (partCells upl.parts).flatten) ⟨T4.out.1.set (by rfl), own_set T4.out.2 _ (by omega)⟩ ?_; rintro W5 T5; clear T4))
    have T6 := Lib.hid T5
    clear T5
    go_wp2_with (first
      | (refine wpList_load_row (by rfl) 36 _ (by rfl) (w.heap.size + 2) (by rfl) 36 (RowV.mk { rowZ with key := key, upl := upl } nilV (.slice va upl.parts.length vc)).cells.toArray (0, 0) _ (by exact T6.out.1.o) Tryd.underlying36 rfl (by kernel_rfl) ?_)
      | (refine wpList_store_row (by rfl) 36 _ _ (by rfl) (w.heap.size + 1) (RowV.mk { rowZ with key := key, upl := upl } nilV (.slice va upl.parts.length vc)).cells.toArray (by rfl) (by rfl) 36 rowZC (by exact T6.out.1.r) (by kernel_rfl) (by rfl) (by kernel_rfl) ?_))
    refine bodyPost_ret (results_cell_row rfl _ _ (w.heap.size + 1) 36 _ _ _ rfl (setRow_heap _ _ _ _ _ _ (by exact T6.out.1.r)) Tryd.underlying36 rfl (by kernel_rfl)) rfl ?_
    exact ⟨⟨told .upls ⟨key, common, latest, ver, upl⟩, nilV, .slice va upl.parts.length vc⟩, rfl, rfl, ⟨World.ownsRow_nil _ _ _ _, own_base (own_set T6.out.2 _ (by omega)) (by omega)⟩, below_one_row _ _ _ _ _ T6.out.1.below (by omega)⟩
  | objs =>
    simp only [kindI]
    go_upto_region 3 with (fail)
    have HU : Hid (W1.rangeAt w.heap.size 3 (verC ver (.slice ab ver.blobs.length cb))) := range_of_heap T1.b (by rw [← HB.out]; exact fun j v hv => by rcases j with _ | _ | _ | _ | _ | _ | _ | _ | j <;> first | exact hv | (simp [verC] at hv))
    go_upto_region 4 with (first
      | (refine wpList_load_mid (by rfl) 31 _ (by rfl) w.heap.size 3 (by rfl) (verC ver (.slice ab ver.blobs.length cb)) _ HU.out Tryd.underlying31 rfl (by kernel_rfl) ?_)
      | (refine wpList_store_partN (by rfl) 31 _ _ (by rfl) (w.heap.size + 2) 3 (verC ver (.slice ab ver.blobs.length cb)) (by rfl) (by rfl) 36 _ (by exact T1.o) (by exact Nat.le_of_ble_eq_true rfl) (by kernel_rfl) (by kernel_rfl) (fun W => T3 w W bc (RowV.mk { rowZ with key := key, ver := ver } (.slice ab ver.blobs.length cb) nilV).cells.toArray) (T1.set (by rfl)) ?_; rintro W2 T2))
    have T2 := Lib.hid T2
    clear T1
    go_upto_region 5 with (refine wpList_store_cellN (by rfl) 29 _ _ (by rfl) (w.heap.size + 2) 10 nilV (by rfl) (by rfl) (by rfl) 36 _ (by exact T2.out.o) (by exact Nat.le_of_ble_eq_true rfl) (by kernel_rfl) (fun W => T3 w W bc (RowV.mk { rowZ with key := key, ver := ver } nilV nilV).cells.toArray) (T2.out.set (by rfl)) ?_; rintro W3 U3)
    have c1 : W3.cell? ⟨w.heap.size + 2, 10, none⟩ = some nilV := cell_at U3.o rfl
    have c2 : W3.cell? ⟨w.heap.size, 10, none⟩ = some (.slice ab ver.blobs.length cb) := cell_at U3.b (by rw [← HB.out]; rfl)
    have HS3 := Lib.hid (HI.out.blobs.later U3.below)
    have U3 := Lib.hid U3
    clear T2
    unfold nilV at c1
    go_upto_region 6 with (first
      | (refine wpList_append_sl (by rfl) _ _ 29 (by rfl) 3 Tryd.underlying29 info_int (by rfl) (by decide) (by rfl) (by rfl) HS3.out (blob_rows _) (blob_one _) (blobs_maxLen HS.out.1).1 (blobs_maxLen HS.out.1).2 ?_
         intro v4 w4 hv4 b4
         rw [show (blobCells ver.blobs).length = ver.blobs.length by simp [blobCells]] at hv4
         obtain ⟨va, vc, rfl⟩ := own_form hv4
         have T4 := Lib.hid (And.intro (U3.out.later b4) (own_base hv4 U3.out.three))
         clear c1 c2 hv4 b4)
      | (refine wpList_store_cellN (by rfl) 29 _ _ (by rfl) (w.heap.size + 2) 10 (.slice va ver.blobs.length vc) (by rfl) (by rfl) (by rfl) 36 _ (by exact T4.out.1.o) (by exact Nat.le_of_ble_eq_true rfl) (by kernel_rfl) (fun W => T3 w W bc (RowV.mk { rowZ with key := key, ver := ver } (.slice va ver.blobs.length vc) nilV).cells.toArray ∧ W.ownsRow (w.heap.size + 3) 3 1 (.slice va ver.blobs.length vc) ver.blobs.length (blobCells ver.blobs).flatten) ⟨T4.out.1.set (by rfl), own_set T4.out.2 _ (by omega)⟩ ?_; rintro W5 T5; clear T4))
    have T6 := Lib.hid T5
    clear T5
    have c2 : W5.cell? ⟨w.heap.size, 2, none⟩ = some (.bool latest) := cell_at T6.out.1.b (by rw [← HB.out]; rfl)
    clear HB HI
    cases latest with
    | false =>
      go_upto_region 11 with (refine wpList_store_cellN (by rfl) 4 _ _ (by rfl) (w.heap.size + 2) 2 (.bool false) (by rfl) (by rfl) (by rfl) 36 _ (by exact T6.out.1.o) (by exact Nat.le_of_ble_eq_true rfl) (by kernel_rfl) (fun W => T3 w W bc (RowV.mk { rowZ with key := key, ver := ver, latest := false } (.slice va ver.blobs.length vc) nilV).cells.toArray ∧ W.ownsRow (w.heap.size + 3) 3 1 (.slice va ver.blobs.length vc) ver.blobs.length (blobCells ver.blobs).flatten) ⟨T6.out.1.set (by rfl), own_set T6.out.2 _ (by omega)⟩ ?_; clear c2 T6; rintro W7 T7)
      have T8 := Lib.hid T7
      clear T7
      go_wp2_with (first
        | (refine wpList_load_row (by rfl) 36 _ (by rfl) (w.heap.size + 2) (by rfl) 36 (RowV.mk { rowZ with key := key, ver := ver, latest := false } (.slice va ver.blobs.length vc) nilV).cells.toArray (0, 0) _ (by exact T8.out.1.o) Tryd.underlying36 rfl (by kernel_rfl) ?_)
        | (refine wpList_store_row (by rfl) 36 _ _ (by rfl) (w.heap.size + 1) (RowV.mk { rowZ with key := key, ver := ver, latest := false } (.slice va ver.blobs.length vc) nilV).cells.toArray (by rfl) (by rfl) 36 rowZC (by exact T8.out.1.r) (by kernel_rfl) (by rfl) (by kernel_rfl) ?_))
      refine bodyPost_ret (results_cell_row rfl _ _ (w.heap.size + 1) 36 _ _ _ rfl (setRow_heap _ _ _ _ _ _ (by exact T8.out.1.r)) Tryd.underlying36 rfl (by kernel_rfl)) rfl ?_
      exact ⟨⟨{ rowZ with key := key, ver := ver, latest := false }, .slice va ver.blobs.length vc, nilV⟩, rfl, rfl, ⟨own_base (own_set T8.out.2 _ (by omega)) (by omega), World.ownsRow_nil _ _ _ _⟩, below_one_row _ _ _ _ _ T8.out.1.below (by omega)⟩
    | true =>
      go_upto_region 11 with (refine wpList_store_cellN (by rfl) 4 _ _ (by rfl) (w.heap.size + 2) 2 (.bool false) (by rfl) (by rfl) (by rfl) 36 _ (by exact T6.out.1.o) (by exact Nat.le_of_ble_eq_true rfl) (by kernel_rfl) (fun W => T3 w W bc (RowV.mk { rowZ with key := key, ver := ver, latest := false } (.slice va ver.blobs.length vc) nilV).cells.toArray ∧ W.ownsRow (w.heap.size + 3) 3 1 (.slice va ver.blobs.length vc) ver.blobs.length (blobCells ver.blobs).flatten) ⟨T6.out.1.set (by rfl), own_set T6.out.2 _ (by omega)⟩ ?_; clear c2 T6; rintro W7 T7)
      have T8 := Lib.hid T7
      clear T7
      go_wp2_with (first
        | (refine wpList_load_row (by rfl) 36 _ (by rfl) (w.heap.size + 2) (by rfl) 36 (RowV.mk { rowZ with key := key, ver := ver, latest := false } (.slice va ver.blobs.length vc) nilV).cells.toArray (0, 0) _ (by exact T8.out.1.o) Tryd.underlying36 rfl (by kernel_rfl) ?_)
        | (refine wpList_store_row (by rfl) 36 _ _ (by rfl) (w.heap.size + 1) (RowV.mk { rowZ with key := key, ver := ver, latest := false } (.slice va ver.blobs.length vc) nilV).cells.toArray (by rfl) (by rfl) 36 rowZC (by exact T8.out.1.r) (by kernel_rfl) (by rfl) (by kernel_rfl) ?_))
      refine bodyPost_ret (results_cell_row rfl _ _ (w.heap.size + 1) 36 _ _ _ rfl (setRow_heap _ _ _ _ _ _ (by exact T8.out.1.r)) Tryd.underlying36 rfl (by kernel_rfl)) rfl ?_
      exact ⟨⟨{ rowZ with key := key, ver := ver, latest := false }, .slice va ver.blobs.length vc, nilV⟩, rfl, rfl, ⟨own_base (own_set T8.out.2 _ (by omega)) (by omega), World.ownsRow_nil _ _ _ _⟩, below_one_row _ _ _ _ _ T8.out.1.below (by omega)⟩
  | vers =>
    simp only [kindI]
    go_upto_region 3 with (fail)
    have HU : Hid (W1.rangeAt w.heap.size 3 (verC ver (.slice ab ver.blobs.length cb))) := range_of_heap T1.b (by rw [← HB.out]; exact fun j v hv => by rcases j with _ | _ | _ | _ | _ | _ | _ | _ | j <;> first | exact hv | (simp [verC] at hv))
    go_upto_region 4 with (first
      | (refine wpList_load_mid (by rfl) 31 _ (by rfl) w.heap.size 3 (by rfl) (verC ver (.slice ab ver.blobs.length cb)) _ HU.out Tryd.underlying31 rfl (by kernel_rfl) ?_)
      | (refine wpList_store_partN (by rfl) 31 _ _ (by rfl) (w.heap.size + 2) 3 (verC ver (.slice ab ver.blobs.length cb)) (by rfl) (by rfl) 36 _ (by exact T1.o) (by exact Nat.le_of_ble_eq_true rfl) (by kernel_rfl) (by kernel_rfl) (fun W => T3 w W bc (RowV.mk { rowZ with key := key, ver := ver } (.slice ab ver.blobs.length cb) nilV).cells.toArray) (T1.set (by rfl)) ?_; rintro W2 T2))
    have T2 := Lib.hid T2
    clear T1
    go_upto_region 5 with (refine wpList_store_cellN (by rfl) 29 _ _ (by rfl) (w.heap.size + 2) 10 nilV (by rfl) (by rfl) (by rfl) 36 _ (by exact T2.out.o) (by exact Nat.le_of_ble_eq_true rfl) (by kernel_rfl) (fun W => T3 w W bc (RowV.mk { rowZ with key := key, ver := ver } nilV nilV).cells.toArray) (T2.out.set (by rfl)) ?_; rintro W3 U3)
    have c1 : W3.cell? ⟨w.heap.size + 2, 10, none⟩ = some nilV := cell_at U3.o rfl
    have c2 : W3.cell? ⟨w.heap.size, 10, none⟩ = some (.slice ab ver.blobs.length cb) := cell_at U3.b (by rw [← HB.out]; rfl)
    have HS3 := Lib.hid (HI.out.blobs.later U3.below)
    have U3 := Lib.hid U3
    clear T2
    unfold nilV at c1
    go_upto_region 6 with (first
      | (refine wpList_append_sl (by rfl) _ _ 29 (by rfl) 3 Tryd.underlying29 info_int (by rfl) (by decide) (by rfl) (by rfl) HS3.out (blob_rows _) (blob_one _) (blobs_maxLen HS.out.1).1 (blobs_maxLen HS.out.1).2 ?_
         intro v4 w4 hv4 b4
         rw [show (blobCells ver.blobs).length = ver.blobs.length by simp [blobCells]] at hv4
         obtain ⟨va, vc, rfl⟩ := own_form hv4
         have T4 := Lib.hid (And.intro (U3.out.later b4) (own_base hv4 U3.out.three))
         clear c1 c2 hv4 b4)
      | (refine wpList_store_cellN (by rfl) 29 _ _ (by rfl) (w.heap.size + 2) 10 (.slice va ver.blobs.length vc) (by rfl) (by rfl) (by rfl) 36 _ (by exact T4.out.1.o) (by exact Nat.le_of_ble_eq_true rfl) (by kernel_rfl) (fun W => T3 w W bc (RowV.mk { rowZ with key := key, ver := ver } (.slice va ver.blobs.length vc) nilV).cells.toArray ∧ W.ownsRow (w.heap.size + 3) 3 1 (.slice va ver.blobs.length vc) ver.blobs.length (blobCells ver.blobs).flatten) ⟨T4.out.1.set (by rfl), own_set T4.out.2 _ (by omega)⟩ ?_; rintro W5 T5; clear T4))
    have T6 := Lib.hid T5
    clear T5
    have c2 : W5.cell? ⟨w.heap.size, 2, none⟩ = some (.bool latest) := cell_at T6.out.1.b (by rw [← HB.out]; rfl)
    clear HB HI
    cases latest with
    | false =>
      go_upto_region 11 with (refine wpList_store_cellN (by rfl) 4 _ _ (by rfl) (w.heap.size + 2) 2 (.bool false) (by rfl) (by rfl) (by rfl) 36 _ (by exact T6.out.1.o) (by exact Nat.le_of_ble_eq_true rfl) (by kernel_rfl) (fun W => T3 w W bc (RowV.mk { rowZ with key := key, ver := ver, latest := false } (.slice va ver.blobs.length vc) nilV).cells.toArray ∧ W.ownsRow (w.heap.size + 3) 3 1 (.slice va ver.blobs.length vc) ver.blobs.length (blobCells ver.blobs).flatten) ⟨T6.out.1.set (by rfl), own_set T6.out.2 _ (by omega)⟩ ?_; clear c2 T6; rintro W7 T7)
      have T8 := Lib.hid T7
      clear T7
      go_wp2_with (first
        | (refine wpList_load_row (by rfl) 36 _ (by rfl) (w.heap.size + 2) (by rfl) 36 (RowV.mk { rowZ with key := key, ver := ver, latest := false } (.slice va ver.blobs.length vc) nilV).cells.toArray (0, 0) _ (by exact T8.out.1.o) Tryd.underlying36 rfl (by kernel_rfl) ?_)
        | (refine wpList_store_row (by rfl) 36 _ _ (by rfl) (w.heap.size + 1) (RowV.mk { rowZ with key := key, ver := ver, latest := false } (.slice va ver.blobs.length vc) nilV).cells.toArray (by rfl) (by rfl) 36 rowZC (by exact T8.out.1.r) (by kernel_rfl) (by rfl) (by kernel_rfl) ?_))
      refine bodyPost_ret (results_cell_row rfl _ _ (w.heap.size + 1) 36 _ _ _ rfl (setRow_heap _ _ _ _ _ _ (by exact T8.out.1.r)) Tryd.underlying36 rfl (by kernel_rfl)) rfl ?_
      exact ⟨⟨{ rowZ with key := key, ver := ver, latest := false }, .slice va ver.blobs.length vc, nilV⟩, rfl, rfl, ⟨own_base (own_set T8.out.2 _ (by omega)) (by omega), World.ownsRow_nil _ _ _ _⟩, below_one_row _ _ _ _ _ T8.out.1.below (by omega)⟩
    | true =>
      go_upto_region 11 with (refine wpList_store_cellN (by rfl) 4 _ _ (by rfl) (w.heap.size + 2) 2 (.bool true) (by rfl) (by rfl) (by rfl) 36 _ (by exact T6.out.1.o) (by exact Nat.le_of_ble_eq_true rfl) (by kernel_rfl) (fun W => T3 w W bc (RowV.mk { rowZ with key := key, ver := ver, latest := true } (.slice va ver.blobs.length vc) nilV).cells.toArray ∧ W.ownsRow (w.heap.size + 3) 3 1 (.slice va ver.blobs.length vc) ver.blobs.length (blobCells ver.blobs).flatten) ⟨T6.out.1.set (by rfl), own_set T6.out.2 _ (by omega)⟩ ?_; clear c2 T6; rintro W7 T7)
      have T8 := Lib.hid T7
      clear T7
      go_wp2_with (first
        | (refine wpList_load_row (by rfl) 36 _ (by rfl) (w.heap.size + 2) (by rfl) 36 (RowV.mk { rowZ with key := key, ver := ver, latest := true } (.slice va ver.blobs.length vc) nilV).cells.toArray (0, 0) _ (by exact T8.out.1.o) Tryd.underlying36 rfl (by kernel_rfl) ?_)
        | (refine wpList_store_row (by rfl) 36 _ _ (by rfl) (w.heap.size + 1) (RowV.mk { rowZ with key := key, ver := ver, latest := true } (.slice va ver.blobs.length vc) nilV).cells.toArray (by rfl) (by rfl) 36 rowZC (by exact T8.out.1.r) (by kernel_rfl) (by rfl) (by kernel_rfl) ?_))
      refine bodyPost_ret (results_cell_row rfl _ _ (w.heap.size + 1) 36 _ _ _ rfl (setRow_heap _ _ _ _ _ _ (by exact T8.out.1.r)) Tryd.underlying36 rfl (by kernel_rfl)) rfl ?_
      exact ⟨⟨{ rowZ with key := key, ver := ver, latest := true }, .slice va ver.blobs.length vc, nilV⟩, rfl, rfl, ⟨own_base (own_set T8.out.2 _ (by omega)) (by omega), World.ownsRow_nil _ _ _ _⟩, below_one_row _ _ _ _ _ T8.out.1.below (by omega)⟩
end Go.Proofs.YtgklbmcnpnmkkaaDoor
