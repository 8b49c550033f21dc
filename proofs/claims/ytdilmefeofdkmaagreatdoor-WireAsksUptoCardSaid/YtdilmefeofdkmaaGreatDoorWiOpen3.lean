/-
  WIRE: a list of requests, read as data, opened; its bulk.
-/
import Derived.Test.YtdilmefeofdkmaaGreatDoorSm38
import Derived.Test.YtdilmefeofdkmaaGreatDoorWiBackL
namespace Go.Proofs.YtdilmefeofdkmaaGreatDoor
open Go.RowKit

theorem askT_len (r : ReqV) (hm : IntOK r.minor) (hb : r.body.length ≤ 1000000000) : (askT r).length ≤ r.meth.length + r.target.length + r.body.length + (r.fields.flatMap fieldT).length + 150 := by
  have h1 := itoa_len30 r.minor hm
  have h2 := itoa_len30 (r.body.length : Int) ⟨by omega, by omega⟩
  have h3 : ((addLen r.body).flatMap fieldT).length ≤ 50 := by
    unfold addLen
    split
    · simp
    · simp only [List.flatMap_cons, List.flatMap_nil, List.append_nil, fieldT_len]
      simp only [longL, List.length_cons, List.length_nil]
      omega
  have h4 : ((addConn r.close r.minor).flatMap fieldT).length ≤ 30 := by
    unfold addConn
    split <;> split <;> decide
  unfold askT askHead fullV
  simp only [List.flatMap_append, List.length_append, List.length_cons, List.length_nil, http1L]
  omega
theorem reqs_bulk {H : Type} : ∀ (l : List (ReqV × Value)) (es : List (DataW H)), es.length = l.length → (∀ (i : Nat) (p : ReqV × Value), l[i]? = some p → ∃ d, es[i]? = some d ∧ (askT p.1).length ≤ 200 * Rows.uptoBulk d) → (l.map fun p => (askT p.1).length).sum ≤ 200 * Rows.uptoBulkAll es
  | [], [], _, _ => by simp
  | p :: l, e :: es, hl, h => by
    obtain ⟨d, h0, h1⟩ := h 0 p rfl
    simp only [List.getElem?_cons_zero, Option.some.injEq] at h0
    subst h0
    have ih := reqs_bulk l es (by simpa using hl) (fun i t ht => by simpa using h (i + 1) t (by simpa using ht))
    simp only [Rows.uptoBulkAll, List.map_cons, List.sum_cons]
    omega

set_option maxRecDepth 100000 in
/-- one request -/
theorem open_req1 {H : Type} {enc : TypeId × Value → H} {W : World} {held : Bool} {fuel : Nat} {cs : List Value} {x : DataW H × List MemPlace} (h : DataW.trod enc Tryz.prog W 0 (fun _ => true) held fuel 31 cs = some x) (hr : ∀ n ∈ DataW.weights Tryz.prog 31 x.1, n ≤ reachBytes) :
    ∃ p : ReqV × Value, cs = reqRow p ∧ PairsAt W p.2 p.1.fields ∧ IntOK p.1.minor ∧ (Rows.uptoBulk x.1 ≤ 1048576 → (askT p.1).length ≤ 200 * Rows.uptoBulk x.1) := by
  obtain ⟨me, ta, mi, fv, g0, y0, bd, cl, hc0, ost, t0, hx0⟩ := opn_req h
  obtain ⟨x1, x2⟩ := x
  simp only at hx0 hr ⊢
  subst hx0
  obtain ⟨ls, vv, hcs, hS, hbk⟩ := open_pairs t0 (fun m hm => hr m (by
    rw [DataW.weights, Tryz.underlying31]
    exact List.mem_append_right _ (List.mem_append_right _ (List.mem_append_right _ (List.mem_append_left _ hm)))))
  obtain rfl : fv = vv := by simpa using hcs
  refine ⟨(⟨me, ta, mi, ls, bd, cl⟩, fv), hc0, hS, ost, fun hb => ?_⟩
  have hb1 := hb
  simp only [Rows.uptoBulk, Rows.uptoBulkAll, bulks.string_eq] at hb1 ⊢
  have := askT_len ⟨me, ta, mi, ls, bd, cl⟩ ost (by simp only; omega)
  simp only at this
  omega
/-- the requests of a slice that is read -/
theorem open_reqs {H : Type} {enc : TypeId × Value → H} {W : World} {held : Bool} {fuel : Nat} {cs : List Value} {x : DataW H × List MemPlace} (h : DataW.trod enc Tryz.prog W 0 (fun _ => true) held fuel 24 cs = some x) (hr : ∀ n ∈ DataW.weights Tryz.prog 24 x.1, n ≤ reachBytes) (hb : Rows.uptoBulk x.1 ≤ 1048576) :
    ∃ (l : List (ReqV × Value)) (v : Value), cs = [v] ∧ ReqsIn W v l ∧ (∀ p ∈ l, IntOK p.1.minor) ∧ (l.map fun p => (askT p.1).length).sum ≤ 1000000000 ∧ l.length ≤ 100000000 := by
  obtain ⟨ls, a, c, es, sps, h1, _, h2, h3, h4, h5, h6⟩ := open_list (fun cs d (p : ReqV × Value) => cs = reqRow p ∧ PairsAt W p.2 p.1.fields ∧ IntOK p.1.minor ∧ (Rows.uptoBulk d ≤ 1048576 → (askT p.1).length ≤ 200 * Rows.uptoBulk d)) Tryz.underlying24 (of_decide_eq_true (by kernel_rfl))
    (fun _ _ _ h hr => open_req1 h hr) h hr
  rw [show Tryz.prog.bytesOf 31 = 88 by kernel_rfl] at h2
  unfold reachBytes at h2
  have h7 := all_bulk h4
  have h8 := bulks.length_le es
  have h9 := reqs_bulk ls es h3 fun i p hp => by
    obtain ⟨_, d, ⟨_, _, _, hq⟩, hd⟩ := h5 i p hp
    have := bulks.part_le (List.mem_of_getElem? hd)
    exact ⟨d, hd, hq (by omega)⟩
  refine ⟨ls, _, h1, ⟨⟨a, c, by rw [List.length_map], by rw [List.length_map]; omega, fun i r hi => ?_⟩, fun p hp => ?_⟩, fun p hp => ?_, by omega, by omega⟩
  · rw [List.getElem?_map, Option.map_eq_some_iff] at hi
    obtain ⟨p, hp, rfl⟩ := hi
    obtain ⟨b, off, rfl, hc⟩ := h6 (by have := (List.getElem?_eq_some_iff.1 hp).1; omega)
    obtain ⟨cs', d, ⟨rfl, _⟩, _, hc⟩ := hc i p hp
    rw [show Tryz.prog.cellsOf 31 = 6 by kernel_rfl] at hc
    exact ⟨b, off, rfl, hc⟩
  · obtain ⟨i, hi⟩ := List.getElem?_of_mem hp
    obtain ⟨_, d, ⟨_, hq, _, _⟩, _⟩ := h5 i p hi
    exact hq
  · obtain ⟨i, hi⟩ := List.getElem?_of_mem hp
    obtain ⟨_, d, ⟨_, _, hq, _⟩, _⟩ := h5 i p hi
    exact hq
end Go.Proofs.YtdilmefeofdkmaaGreatDoor
