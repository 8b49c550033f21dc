/-
  LISTING: Objects, Versions, Uploads: a page of each. (Printed by wip/gen/lsfns.py.)
-/
import Derived.Test.YtgklbmcnpnmkkaaDoorLsPage
namespace Go.Proofs.YtgklbmcnpnmkkaaDoor
open Go.RowKit

/-- a list that is asked for pages -/
structure ListIn (w : World) (a0 : Option Addr) (c0 : Nat) (ps : List RowV) (pre delim : List UInt8) : Prop where
  rows : RowsIn w (.slice a0 ps.length c0) ps
  max : ∃ m0, w.cell? ⟨0, 0, none⟩ = some (.int .i64 m0)
  size : ∀ p ∈ ps, SizeOK p.d
  key : ∀ p ∈ ps, p.d.key.length ≤ 140737488355328 ∧ (delim = [] ∨ p.d.key.length < 4294967281)
  len : ps.length ≤ 140737488351232
  pre : pre.length ≤ 140737488355328
  delim : delim.length ≤ 140737488355328
theorem ListIn.later {w w' : World} {a0 : Option Addr} {c0 : Nat} {ps : List RowV} {pre delim : List UInt8} (h : ListIn w a0 c0 ps pre delim) (hb : Below w.heap.size w w') : ListIn w' a0 c0 ps pre delim :=
  ⟨h.rows.later hb, by obtain ⟨m, hm⟩ := h.max; exact ⟨m, by rw [World.cell?_of_block (w := w) (hb.block _ (World.block_lt_of_cell? w _ hm))]; exact hm⟩, h.size, h.key, h.len, h.pre, h.delim⟩
theorem list_page {k : Kind} {w : World} {a0 : Option Addr} {c0 : Nat} {ps : List RowV} {pre delim after : List UInt8} {seq most : Int} {ft fs : Nat} {va : Value} (h : ListIn w a0 c0 ps pre delim) (hV : ViewIs k ft fs va) (hk0 : k = .objs → seq = 0) :
    Calls Tryd.prog 28 #[.slice a0 ps.length c0, .string ⟨pre.toArray⟩, .string ⟨delim.toArray⟩, .string ⟨after.toArray⟩, .int .i64 seq, .int .i64 most, .agg #[.func (.func ft) #[] #[], .func (.func fs) #[] #[], va]] w
      (PageOut (pageL k (ps.map RowV.d) pre delim after seq most) w) := by
  obtain ⟨m0, hm⟩ := h.max
  exact page_any k (m0 := m0) hV h.rows hm h.size h.key h.len h.pre h.delim hk0
theorem RowsOwn.grow1 {w w1 w2 : World} {vr : Value} {qs : List RowV} (h : RowsOwn w2 w1.heap.size vr qs) (hs : w.heap.size ≤ w1.heap.size) : RowsOwn w2 w.heap.size vr qs := h.base hs

set_option maxHeartbeats 4000000 in
set_option maxRecDepth 100000 in
theorem objects_any {w : World} {a0 : Option Addr} {c0 : Nat} {ps : List RowV} {pre delim : List UInt8} (after : List UInt8) (most : Int) (h : ListIn w a0 c0 ps pre delim) :
    Calls Tryd.prog 12 #[.slice a0 ps.length c0, .string ⟨pre.toArray⟩, .string ⟨delim.toArray⟩, .string ⟨after.toArray⟩, .int .i64 most] w (PageOut (pageL .objs (ps.map RowV.d) pre delim after 0 most) w) := by
  have b1 : Below w.heap.size w (w.alloc (.cells pageZC 26)) := below_alloc (Below.refl _ _) (Nat.le_refl _) _
  have HP := Lib.hid (list_page (after := after) (seq := 0) (most := most) (h.later b1) (view_objs Value.nilFunc) (fun hk => by first | rfl | cases hk))
  have h1 : Hid ((w.alloc (.cells pageZC 26)).heap[w.heap.size]? = some (.cells pageZC 26 (0, 0))) := heap_alloc_new _ _
  clear h
  go_enter Tryd.func12, Tryd.ntmps12
  go_wp2_with fail
  refine HP.out.mono ?_
  rintro e w2 ⟨vr, qs, rfl, hq, hr, hb⟩
  obtain ⟨ar, cr, rfl⟩ := own_form hr.own
  have h2 : Hid (w2.heap[w.heap.size]? = some (.cells pageZC 26 (0, 0))) := (hb.block _ (by simp)).trans h1.out
  have HQ := Lib.hid hq
  have HR := Lib.hid hr
  have HB := Lib.hid (b1.trans (hb.mono (by simp)))
  clear hq hr hb h1
  generalize pageL .objs (ps.map RowV.d) pre delim after 0 most = pg at *
  go_wp2_with (refine wpList_store_row (by rfl) 26 _ _ (by rfl) w.heap.size #[.slice ar qs.length cr, .bool pg.more, .string ⟨pg.next.toArray⟩, .int .i64 pg.entry] (by rfl) (by rfl) 26 pageZC (by exact h2.out) (by kernel_rfl) (by rfl) (by kernel_rfl) ?_)
  refine bodyPost_ret (results_cell_row rfl _ _ w.heap.size 26 _ _ _ rfl (setRow_heap _ _ _ _ _ _ h2.out) Tryd.underlying26 rfl (by kernel_rfl)) rfl ?_
  refine ⟨.slice ar qs.length cr, qs, rfl, HQ.out, RowsOwn.base (HR.out.keptB fun g h1 _ => setRow_other _ _ _ _ (by simp at h1; omega)) (by simp), below_one_row _ _ _ _ _ HB.out (Nat.le_refl _)⟩

set_option maxHeartbeats 4000000 in
set_option maxRecDepth 100000 in
theorem versions_any {w : World} {a0 : Option Addr} {c0 : Nat} {ps : List RowV} {pre delim : List UInt8} (after : List UInt8) (seq : Int) (most : Int) (h : ListIn w a0 c0 ps pre delim) :
    Calls Tryd.prog 10 #[.slice a0 ps.length c0, .string ⟨pre.toArray⟩, .string ⟨delim.toArray⟩, .string ⟨after.toArray⟩, .int .i64 seq, .int .i64 most] w (PageOut (pageL .vers (ps.map RowV.d) pre delim after seq most) w) := by
  have b1 : Below w.heap.size w (w.alloc (.cells pageZC 26)) := below_alloc (Below.refl _ _) (Nat.le_refl _) _
  have HP := Lib.hid (list_page (after := after) (seq := seq) (most := most) (h.later b1) view_vers (fun hk => by first | rfl | cases hk))
  have h1 : Hid ((w.alloc (.cells pageZC 26)).heap[w.heap.size]? = some (.cells pageZC 26 (0, 0))) := heap_alloc_new _ _
  clear h
  go_enter Tryd.func10, Tryd.ntmps10
  go_wp2_with fail
  refine HP.out.mono ?_
  rintro e w2 ⟨vr, qs, rfl, hq, hr, hb⟩
  obtain ⟨ar, cr, rfl⟩ := own_form hr.own
  have h2 : Hid (w2.heap[w.heap.size]? = some (.cells pageZC 26 (0, 0))) := (hb.block _ (by simp)).trans h1.out
  have HQ := Lib.hid hq
  have HR := Lib.hid hr
  have HB := Lib.hid (b1.trans (hb.mono (by simp)))
  clear hq hr hb h1
  generalize pageL .vers (ps.map RowV.d) pre delim after seq most = pg at *
  go_wp2_with (refine wpList_store_row (by rfl) 26 _ _ (by rfl) w.heap.size #[.slice ar qs.length cr, .bool pg.more, .string ⟨pg.next.toArray⟩, .int .i64 pg.entry] (by rfl) (by rfl) 26 pageZC (by exact h2.out) (by kernel_rfl) (by rfl) (by kernel_rfl) ?_)
  refine bodyPost_ret (results_cell_row rfl _ _ w.heap.size 26 _ _ _ rfl (setRow_heap _ _ _ _ _ _ h2.out) Tryd.underlying26 rfl (by kernel_rfl)) rfl ?_
  refine ⟨.slice ar qs.length cr, qs, rfl, HQ.out, RowsOwn.base (HR.out.keptB fun g h1 _ => setRow_other _ _ _ _ (by simp at h1; omega)) (by simp), below_one_row _ _ _ _ _ HB.out (Nat.le_refl _)⟩

set_option maxHeartbeats 4000000 in
set_option maxRecDepth 100000 in
theorem uploads_any {w : World} {a0 : Option Addr} {c0 : Nat} {ps : List RowV} {pre delim : List UInt8} (after : List UInt8) (seq : Int) (most : Int) (h : ListIn w a0 c0 ps pre delim) :
    Calls Tryd.prog 18 #[.slice a0 ps.length c0, .string ⟨pre.toArray⟩, .string ⟨delim.toArray⟩, .string ⟨after.toArray⟩, .int .i64 seq, .int .i64 most] w (PageOut (pageL .upls (ps.map RowV.d) pre delim after seq most) w) := by
  have b1 : Below w.heap.size w (w.alloc (.cells pageZC 26)) := below_alloc (Below.refl _ _) (Nat.le_refl _) _
  have HP := Lib.hid (list_page (after := after) (seq := seq) (most := most) (h.later b1) view_upls (fun hk => by first | rfl | cases hk))
  have h1 : Hid ((w.alloc (.cells pageZC 26)).heap[w.heap.size]? = some (.cells pageZC 26 (0, 0))) := heap_alloc_new _ _
  clear h
  go_enter Tryd.func18, Tryd.ntmps18
  go_wp2_with fail
  refine HP.out.mono ?_
  rintro e w2 ⟨vr, qs, rfl, hq, hr, hb⟩
  obtain ⟨ar, cr, rfl⟩ := own_form hr.own
  have h2 : Hid (w2.heap[w.heap.size]? = some (.cells pageZC 26 (0, 0))) := (hb.block _ (by simp)).trans h1.out
  have HQ := Lib.hid hq
  have HR := Lib.hid hr
  have HB := Lib.hid (b1.trans (hb.mono (by simp)))
  clear hq hr hb h1
  generalize pageL .upls (ps.map RowV.d) pre delim after seq most = pg at *
  go_wp2_with (refine wpList_store_row (by rfl) 26 _ _ (by rfl) w.heap.size #[.slice ar qs.length cr, .bool pg.more, .string ⟨pg.next.toArray⟩, .int .i64 pg.entry] (by rfl) (by rfl) 26 pageZC (by exact h2.out) (by kernel_rfl) (by rfl) (by kernel_rfl) ?_)
  refine bodyPost_ret (results_cell_row rfl _ _ w.heap.size 26 _ _ _ rfl (setRow_heap _ _ _ _ _ _ h2.out) Tryd.underlying26 rfl (by kernel_rfl)) rfl ?_
  refine ⟨.slice ar qs.length cr, qs, rfl, HQ.out, RowsOwn.base (HR.out.keptB fun g h1 _ => setRow_other _ _ _ _ (by simp at h1; omega)) (by simp), below_one_row _ _ _ _ _ HB.out (Nat.le_refl _)⟩
end Go.Proofs.YtgklbmcnpnmkkaaDoor
