/-
  SEVERAL SMALL TEXTS IN ONE.
-/
import Derived.Test.YtgklbmcnpnmkkaaDoorLsRPg
import Derived.Test.YtgklbmcnpnmkkaaDoorSm6
import Derived.Deep.MidRow
/-
  storehouseref20's Objects, Versions, Uploads. (Printed by wip/gen/lsrfns.py.)
-/
namespace Go.Proofs.YtgklbmcnpnmkkaaDoor
open Go.RowKit

/-- a list that the document is asked of -/
structure RListIn (w : World) (a0 : Option Addr) (c0 : Nat) (ps : List RowV) (pre delim : List UInt8) : Prop where
  rows : RowsIn w (.slice a0 ps.length c0) ps
  size : ∀ p ∈ ps, SizeOK p.d
  key : ∀ p ∈ ps, p.d.key.length ≤ 140737488355328
  len : ps.length ≤ 16777216
  pre : pre.length ≤ 140737488355328
  delim : delim.length ≤ 140737488355300
theorem RListIn.later {w w' : World} {a0 : Option Addr} {c0 : Nat} {ps : List RowV} {pre delim : List UInt8} (h : RListIn w a0 c0 ps pre delim) (hb : Below w.heap.size w w') : RListIn w' a0 c0 ps pre delim :=
  ⟨h.rows.later hb, h.size, h.key, h.len, h.pre, h.delim⟩

set_option maxHeartbeats 4000000 in
set_option maxRecDepth 100000 in
theorem rObjects_any {w : World} {a0 : Option Addr} {c0 : Nat} {ps : List RowV} {pre delim : List UInt8} (after : List UInt8) (most : Int) (h : RListIn w a0 c0 ps pre delim) :
    Calls Tryd.prog 20 #[.slice a0 ps.length c0, .string ⟨pre.toArray⟩, .string ⟨delim.toArray⟩, .string ⟨after.toArray⟩, .int .i64 most] w (PageOut (pageL .objs (ps.map RowV.d) pre delim after 0 most) w) := by
  have b1 : Below w.heap.size w (w.alloc (.cells pageZC 26)) := below_alloc (Below.refl _ _) (Nat.le_refl _) _
  have HP := Lib.hid (rPg_any .objs (after := after) (number := 0) (most := most) (h.rows.later b1) h.size h.key h.len h.pre h.delim (fun hk => by first | rfl | cases hk))
  have h1 : Hid ((w.alloc (.cells pageZC 26)).heap[w.heap.size]? = some (.cells pageZC 26 (0, 0))) := heap_alloc_new _ _
  clear h
  go_enter Tryd.func20, Tryd.ntmps20
  go_wp2_with fail
  refine HP.out.mono ?_
  rintro e w2 ⟨vr, qs, rfl, hq, hr, hb⟩
  obtain ⟨ar, cr, rfl⟩ := own_form hr.own
  have h2 : Hid (w2.heap[w.heap.size]? = some (.cells pageZC 26 (0, 0))) := (hb.block _ (by simp)).trans h1.out
  have HQ := Lib.hid hq
  have HR := Lib.hid hr
  have HB := Lib.hid (b1.trans (hb.mono (by simp)))
  clear hq hr hb h1
  generalize pageL .objs (ps.map RowV.d) pre delim after 0 most = pg at *
  go_wp2_with (refine wpList_store_row (by rfl) 26 _ _ (by rfl) w.heap.size #[.slice ar qs.length cr, .bool pg.more, .string ⟨pg.next.toArray⟩, .int .i64 pg.entry] (by rfl) (by rfl) 26 pageZC (by exact h2.out) (by kernel_rfl) (by rfl) (by kernel_rfl) ?_)
  refine bodyPost_ret (results_cell_row rfl _ _ w.heap.size 26 _ _ _ rfl (setRow_heap _ _ _ _ _ _ h2.out) Tryd.underlying26 rfl (by kernel_rfl)) rfl ?_
  refine ⟨.slice ar qs.length cr, qs, rfl, HQ.out, RowsOwn.base (HR.out.keptB fun g h1 _ => setRow_other _ _ _ _ (by simp at h1; omega)) (by simp), below_one_row _ _ _ _ _ HB.out (Nat.le_refl _)⟩

set_option maxHeartbeats 4000000 in
set_option maxRecDepth 100000 in
theorem rVersions_any {w : World} {a0 : Option Addr} {c0 : Nat} {ps : List RowV} {pre delim : List UInt8} (after : List UInt8) (seq : Int) (most : Int) (h : RListIn w a0 c0 ps pre delim) :
    Calls Tryd.prog 21 #[.slice a0 ps.length c0, .string ⟨pre.toArray⟩, .string ⟨delim.toArray⟩, .string ⟨after.toArray⟩, .int .i64 seq, .int .i64 most] w (PageOut (pageL .vers (ps.map RowV.d) pre delim after seq most) w) := by
  have b1 : Below w.heap.size w (w.alloc (.cells pageZC 26)) := below_alloc (Below.refl _ _) (Nat.le_refl _) _
  have HP := Lib.hid (rPg_any .vers (after := after) (number := seq) (most := most) (h.rows.later b1) h.size h.key h.len h.pre h.delim (fun hk => by first | rfl | cases hk))
  have h1 : Hid ((w.alloc (.cells pageZC 26)).heap[w.heap.size]? = some (.cells pageZC 26 (0, 0))) := heap_alloc_new _ _
  clear h
  go_enter Tryd.func21, Tryd.ntmps21
  go_wp2_with fail
  refine HP.out.mono ?_
  rintro e w2 ⟨vr, qs, rfl, hq, hr, hb⟩
  obtain ⟨ar, cr, rfl⟩ := own_form hr.own
  have h2 : Hid (w2.heap[w.heap.size]? = some (.cells pageZC 26 (0, 0))) := (hb.block _ (by simp)).trans h1.out
  have HQ := Lib.hid hq
  have HR := Lib.hid hr
  have HB := Lib.hid (b1.trans (hb.mono (by simp)))
  clear hq hr hb h1
  generalize pageL .vers (ps.map RowV.d) pre delim after seq most = pg at *
  go_wp2_with (refine wpList_store_row (by rfl) 26 _ _ (by rfl) w.heap.size #[.slice ar qs.length cr, .bool pg.more, .string ⟨pg.next.toArray⟩, .int .i64 pg.entry] (by rfl) (by rfl) 26 pageZC (by exact h2.out) (by kernel_rfl) (by rfl) (by kernel_rfl) ?_)
  refine bodyPost_ret (results_cell_row rfl _ _ w.heap.size 26 _ _ _ rfl (setRow_heap _ _ _ _ _ _ h2.out) Tryd.underlying26 rfl (by kernel_rfl)) rfl ?_
  refine ⟨.slice ar qs.length cr, qs, rfl, HQ.out, RowsOwn.base (HR.out.keptB fun g h1 _ => setRow_other _ _ _ _ (by simp at h1; omega)) (by simp), below_one_row _ _ _ _ _ HB.out (Nat.le_refl _)⟩

set_option maxHeartbeats 4000000 in
set_option maxRecDepth 100000 in
theorem rUploads_any {w : World} {a0 : Option Addr} {c0 : Nat} {ps : List RowV} {pre delim : List UInt8} (after : List UInt8) (seq : Int) (most : Int) (h : RListIn w a0 c0 ps pre delim) :
    Calls Tryd.prog 22 #[.slice a0 ps.length c0, .string ⟨pre.toArray⟩, .string ⟨delim.toArray⟩, .string ⟨after.toArray⟩, .int .i64 seq, .int .i64 most] w (PageOut (pageL .upls (ps.map RowV.d) pre delim after seq most) w) := by
  have b1 : Below w.heap.size w (w.alloc (.cells pageZC 26)) := below_alloc (Below.refl _ _) (Nat.le_refl _) _
  have HP := Lib.hid (rPg_any .upls (after := after) (number := seq) (most := most) (h.rows.later b1) h.size h.key h.len h.pre h.delim (fun hk => by first | rfl | cases hk))
  have h1 : Hid ((w.alloc (.cells pageZC 26)).heap[w.heap.size]? = some (.cells pageZC 26 (0, 0))) := heap_alloc_new _ _
  clear h
  go_enter Tryd.func22, Tryd.ntmps22
  go_wp2_with fail
  refine HP.out.mono ?_
  rintro e w2 ⟨vr, qs, rfl, hq, hr, hb⟩
  obtain ⟨ar, cr, rfl⟩ := own_form hr.own
  have h2 : Hid (w2.heap[w.heap.size]? = some (.cells pageZC 26 (0, 0))) := (hb.block _ (by simp)).trans h1.out
  have HQ := Lib.hid hq
  have HR := Lib.hid hr
  have HB := Lib.hid (b1.trans (hb.mono (by simp)))
  clear hq hr hb h1
  generalize pageL .upls (ps.map RowV.d) pre delim after seq most = pg at *
  go_wp2_with (refine wpList_store_row (by rfl) 26 _ _ (by rfl) w.heap.size #[.slice ar qs.length cr, .bool pg.more, .string ⟨pg.next.toArray⟩, .int .i64 pg.entry] (by rfl) (by rfl) 26 pageZC (by exact h2.out) (by kernel_rfl) (by rfl) (by kernel_rfl) ?_)
  refine bodyPost_ret (results_cell_row rfl _ _ w.heap.size 26 _ _ _ rfl (setRow_heap _ _ _ _ _ _ h2.out) Tryd.underlying26 rfl (by kernel_rfl)) rfl ?_
  refine ⟨.slice ar qs.length cr, qs, rfl, HQ.out, RowsOwn.base (HR.out.keptB fun g h1 _ => setRow_other _ _ _ _ (by simp at h1; omega)) (by simp), below_one_row _ _ _ _ _ HB.out (Nat.le_refl _)⟩
end Go.Proofs.YtgklbmcnpnmkkaaDoor

/-
  storehouseref20.SameRow at rows that say the same.
-/
namespace Go.Proofs.YtgklbmcnpnmkkaaDoor
open Go.RowKit Go.Lib

theorem range_heap {w : World} {g k : Nat} {cur : Array Value} {t : TypeId} {cs : List Value} (h : w.heap[g]? = some (.cells cur t (0, 0))) (hd : (cur.toList.drop k).take cs.length = cs) : w.rangeAt g k cs := by
  intro j u hj
  have hlt := (List.getElem?_eq_some_iff.1 hj).1
  refine (cell_of_heap h).trans ?_
  rw [← hd, List.getElem?_take, if_pos hlt, List.getElem?_drop, Array.getElem?_toList] at hj
  exact hj

set_option maxHeartbeats 4000000 in
set_option maxRecDepth 100000 in
theorem rSameRow_any (p q : RowV) (w : World) (hd : p.d = q.d) (h : RowIn w p) (h' : RowIn w q) :
    Calls Tryd.prog 43 #[.agg p.cells.toArray, .agg q.cells.toArray] w fun e w' => e = .returned (.bool true) ∧ Below w.heap.size w w' := by
  obtain ⟨d, vb, vp⟩ := p
  obtain ⟨d', vb', vp'⟩ := q
  simp only at hd
  subst hd
  have HV : Hid (∀ W, Below w.heap.size w W → Calls Tryd.prog 52 #[.agg (verCells d.ver vb).toArray, .agg (verCells d.ver vb').toArray] W fun e w' => e = .returned (.bool true) ∧ Below W.heap.size W w') := fun W hW => rSameVer_any d.ver vb vb' W (h.blobs.later hW) (h'.blobs.later hW)
  have HU : Hid (∀ W, Below w.heap.size w W → Calls Tryd.prog 53 #[.agg (uplCells d.upl vp).toArray, .agg (uplCells d.upl vp').toArray] W fun e w' => e = .returned (.bool true) ∧ Below W.heap.size W w') := fun W hW => rSameUpl_any d.upl vp vp' W (h.parts.later hW) (h'.parts.later hW)
  clear h h'
  obtain ⟨key, common, latest, ⟨seq, null, marker, etag, typ, size, when_, blobs⟩, ⟨useq, ubucket, ukey, utyp, uowner, uwhen, parts⟩⟩ := d
  simp only [RowV.cells, verCells, uplCells] at HV HU ⊢
  go_enter Tryd.func43, Tryd.ntmps43
  go_wp2_with fail
  generalize hW1 : (w.alloc _).alloc _ = W1
  have B1 : Hid (Below w.heap.size w W1) := by show Below _ _ _; rw [← hW1]; exact below_alloc (below_alloc (Below.refl _ _) (Nat.le_refl _) _) (Nat.le_refl _) _
  have H1 : Hid (W1.heap[w.heap.size]? = some (.cells #[.string ⟨key.toArray⟩, .bool common, .bool latest, .int .i64 seq, .bool null, .bool marker, .string ⟨etag.toArray⟩, .string ⟨typ.toArray⟩, .int .i64 size, .int .i64 when_, vb, .int .i64 useq, .string ⟨ubucket.toArray⟩, .string ⟨ukey.toArray⟩, .string ⟨utyp.toArray⟩, .string ⟨uowner.toArray⟩, .int .i64 uwhen, vp] 36 (0, 0))) := by show _ = _; rw [← hW1]; exact heap_old _ (heap_alloc_new _ _)
  have H2 : Hid (W1.heap[w.heap.size + 1]? = some (.cells #[.string ⟨key.toArray⟩, .bool common, .bool latest, .int .i64 seq, .bool null, .bool marker, .string ⟨etag.toArray⟩, .string ⟨typ.toArray⟩, .int .i64 size, .int .i64 when_, vb', .int .i64 useq, .string ⟨ubucket.toArray⟩, .string ⟨ukey.toArray⟩, .string ⟨utyp.toArray⟩, .string ⟨uowner.toArray⟩, .int .i64 uwhen, vp'] 36 (0, 0))) := by show _ = _; rw [← hW1]; exact heap_at1 _ _ _
  clear hW1
  refine (HV.out _ B1.out).mono ?_
  rintro e w2 ⟨rfl, hb2⟩
  have B2 := Lib.hid (B1.out.trans (hb2.mono B1.out.size))
  have L1 := (Array.getElem?_eq_some_iff.1 H1.out).1
  have L2 := (Array.getElem?_eq_some_iff.1 H2.out).1
  have K1 : Hid (w2.heap[w.heap.size]? = some (.cells #[.string ⟨key.toArray⟩, .bool common, .bool latest, .int .i64 seq, .bool null, .bool marker, .string ⟨etag.toArray⟩, .string ⟨typ.toArray⟩, .int .i64 size, .int .i64 when_, vb, .int .i64 useq, .string ⟨ubucket.toArray⟩, .string ⟨ukey.toArray⟩, .string ⟨utyp.toArray⟩, .string ⟨uowner.toArray⟩, .int .i64 uwhen, vp] 36 (0, 0))) := (hb2.block _ L1).trans H1.out
  have K2 : Hid (w2.heap[w.heap.size + 1]? = some (.cells #[.string ⟨key.toArray⟩, .bool common, .bool latest, .int .i64 seq, .bool null, .bool marker, .string ⟨etag.toArray⟩, .string ⟨typ.toArray⟩, .int .i64 size, .int .i64 when_, vb', .int .i64 useq, .string ⟨ubucket.toArray⟩, .string ⟨ukey.toArray⟩, .string ⟨utyp.toArray⟩, .string ⟨uowner.toArray⟩, .int .i64 uwhen, vp'] 36 (0, 0))) := (hb2.block _ L2).trans H2.out
  have R1 : Hid (w2.rangeAt w.heap.size 11 [.int .i64 useq, .string ⟨ubucket.toArray⟩, .string ⟨ukey.toArray⟩, .string ⟨utyp.toArray⟩, .string ⟨uowner.toArray⟩, .int .i64 uwhen, vp]) := range_heap K1.out rfl
  have R2 : Hid (w2.rangeAt (w.heap.size + 1) 11 [.int .i64 useq, .string ⟨ubucket.toArray⟩, .string ⟨ukey.toArray⟩, .string ⟨utyp.toArray⟩, .string ⟨uowner.toArray⟩, .int .i64 uwhen, vp']) := range_heap K2.out rfl
  clear hb2 H1 H2 L1 L2
  go_wp2_with (first
    | (refine wpList_load_mid (by rfl) 34 _ (by rfl) w.heap.size 11 (by rfl) [.int .i64 useq, .string ⟨ubucket.toArray⟩, .string ⟨ukey.toArray⟩, .string ⟨utyp.toArray⟩, .string ⟨uowner.toArray⟩, .int .i64 uwhen, vp] _ (by exact R1.out) Tryd.underlying34 rfl (by kernel_rfl) ?_)
    | (refine wpList_load_mid (by rfl) 34 _ (by rfl) (w.heap.size + 1) 11 (by rfl) [.int .i64 useq, .string ⟨ubucket.toArray⟩, .string ⟨ukey.toArray⟩, .string ⟨utyp.toArray⟩, .string ⟨uowner.toArray⟩, .int .i64 uwhen, vp'] _ (by exact R2.out) Tryd.underlying34 rfl (by kernel_rfl) ?_))
  refine (HU.out _ B2.out).mono ?_
  rintro e w3 ⟨rfl, hb3⟩
  have B3 := Lib.hid (B2.out.trans (hb3.mono B2.out.size))
  have L1 := (Array.getElem?_eq_some_iff.1 K1.out).1
  have L2 := (Array.getElem?_eq_some_iff.1 K2.out).1
  have M1 := (hb3.block _ L1).trans K1.out
  have M2 := (hb3.block _ L2).trans K2.out
  have a0 : w3.cell? ⟨w.heap.size, 0, none⟩ = some (.string ⟨key.toArray⟩) := cell_of_heap M1
  have a1 : w3.cell? ⟨w.heap.size, 1, none⟩ = some (.bool common) := cell_of_heap M1
  have a2 : w3.cell? ⟨w.heap.size, 2, none⟩ = some (.bool latest) := cell_of_heap M1
  have b0 : w3.cell? ⟨w.heap.size + 1, 0, none⟩ = some (.string ⟨key.toArray⟩) := cell_of_heap M2
  have b1 : w3.cell? ⟨w.heap.size + 1, 1, none⟩ = some (.bool common) := cell_of_heap M2
  have b2 : w3.cell? ⟨w.heap.size + 1, 2, none⟩ = some (.bool latest) := cell_of_heap M2
  clear M1 M2 L1 L2 K1 K2 R1 R2 hb3
  go_wp2_with fail
  go_ret
  exact ⟨rfl, B3.out⟩
end Go.Proofs.YtgklbmcnpnmkkaaDoor
