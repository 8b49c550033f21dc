/-
  SEVERAL SMALL TEXTS IN ONE.
-/
import Derived.Test.YtdilmefeofdkmaaGreatDoorSm41
import Derived.Test.YtdilmefeofdkmaaGreatDoorWiEncH
import Derived.Test.YtdilmefeofdkmaaGreatDoorWiBackL
/-
  WIRE: pairs, answers and requests, read as data, opened; their bulk. (Printed by wip/gen/wiopen2.py.)
-/
namespace Go.Proofs.YtdilmefeofdkmaaGreatDoor
open Go.RowKit

theorem intOK_wf {n : Int} (h : (Lit.int .i64 n).wf = true) : IntOK n := by
  unfold IntOK
  simpa [Lit.wf, IntKind.min, IntKind.max, IntKind.signed, IntKind.bits] using h

set_option maxRecDepth 100000 in
theorem opn_pair {H : Type} {enc : TypeId × Value → H} {W : World} {held : Bool} {base : Nat} {sp : Nat → Bool} {fuel : Nat} {cs : List Value} {x : DataW H × List MemPlace} (h : DataW.trod enc Tryz.prog W base sp held fuel 58 cs = some x) :
    ∃ (nm : List UInt8) (vl : List UInt8), cs = [.string ⟨nm.toArray⟩, .string ⟨vl.toArray⟩] ∧ x.1 = .agg [.lit (.string nm), .lit (.string vl)] := by
  cases fuel with
  | zero => simp [DataW.trod] at h
  | succ fuel =>
    obtain ⟨hl, xs, hxs, rfl⟩ := open_struct Tryz.underlying58 h
    rw [show Tryz.prog.cellsOf 58 = 2 by kernel_rfl] at hl
    match cs, hl with
    | [c0, c1], _ =>
      simp only [List.mapM_cons, List.mapM_nil, Option.bind_eq_bind, Option.bind_eq_some_iff, Option.pure_def, Option.some.injEq, show Tryz.prog.cellsOf 9 = 1 by kernel_rfl] at hxs
      obtain ⟨d0, e0, _, ⟨d1, e1, _, rfl, rfl⟩, rfl⟩ := hxs
      simp only [List.drop_zero, List.drop_succ_cons, List.take_succ_cons, List.take_zero] at e0 e1
      obtain ⟨s0, h0, rfl⟩ := open_str Tryz.underlying9 e0
      obtain ⟨s1, h1, rfl⟩ := open_str Tryz.underlying9 e1
      simp only [List.cons.injEq, and_true] at h0 h1
      subst h0
      subst h1
      exact ⟨s0.data.toList, s1.data.toList, rfl, rfl⟩


set_option maxRecDepth 100000 in
theorem opn_resp {H : Type} {enc : TypeId × Value → H} {W : World} {held : Bool} {base : Nat} {sp : Nat → Bool} {fuel : Nat} {cs : List Value} {x : DataW H × List MemPlace} (h : DataW.trod enc Tryz.prog W base sp held fuel 46 cs = some x) :
    ∃ (st : Int) (fs : Value) (ffs : Nat) (yfs : DataW H × List MemPlace) (bd : List UInt8) (ba : Bool) (cl : Bool), cs = [.int .i64 st, fs, .string ⟨bd.toArray⟩, .bool ba, .bool cl] ∧ IntOK st ∧ DataW.trod enc Tryz.prog W base sp held ffs 29 [fs] = some yfs ∧ x.1 = .agg [.lit (.int .i64 st), yfs.1, .lit (.string bd), .lit (.bool ba), .lit (.bool cl)] := by
  cases fuel with
  | zero => simp [DataW.trod] at h
  | succ fuel =>
    obtain ⟨hl, xs, hxs, rfl⟩ := open_struct Tryz.underlying46 h
    rw [show Tryz.prog.cellsOf 46 = 5 by kernel_rfl] at hl
    match cs, hl with
    | [c0, c1, c2, c3, c4], _ =>
      simp only [List.mapM_cons, List.mapM_nil, Option.bind_eq_bind, Option.bind_eq_some_iff, Option.pure_def, Option.some.injEq, show Tryz.prog.cellsOf 3 = 1 by kernel_rfl, show Tryz.prog.cellsOf 29 = 1 by kernel_rfl, show Tryz.prog.cellsOf 9 = 1 by kernel_rfl, show Tryz.prog.cellsOf 4 = 1 by kernel_rfl] at hxs
      obtain ⟨d0, e0, _, ⟨d1, e1, _, ⟨d2, e2, _, ⟨d3, e3, _, ⟨d4, e4, _, rfl, rfl⟩, rfl⟩, rfl⟩, rfl⟩, rfl⟩ := hxs
      simp only [List.drop_zero, List.drop_succ_cons, List.take_succ_cons, List.take_zero] at e0 e1 e2 e3 e4
      obtain ⟨s0, h0, w0, rfl⟩ := open_num Tryz.underlying3 e0
      obtain ⟨s2, h2, rfl⟩ := open_str Tryz.underlying9 e2
      obtain ⟨s3, h3, rfl⟩ := open_bit Tryz.underlying4 e3
      obtain ⟨s4, h4, rfl⟩ := open_bit Tryz.underlying4 e4
      simp only [List.cons.injEq, and_true] at h0 h2 h3 h4
      subst h0
      subst h2
      subst h3
      subst h4
      exact ⟨s0, c1, fuel, d1, s2.data.toList, s3, s4, rfl, intOK_wf w0, e1, rfl⟩


set_option maxRecDepth 100000 in
theorem opn_req {H : Type} {enc : TypeId × Value → H} {W : World} {held : Bool} {base : Nat} {sp : Nat → Bool} {fuel : Nat} {cs : List Value} {x : DataW H × List MemPlace} (h : DataW.trod enc Tryz.prog W base sp held fuel 31 cs = some x) :
    ∃ (me : List UInt8) (ta : List UInt8) (mi : Int) (fs : Value) (ffs : Nat) (yfs : DataW H × List MemPlace) (bd : List UInt8) (cl : Bool), cs = [.string ⟨me.toArray⟩, .string ⟨ta.toArray⟩, .int .i64 mi, fs, .string ⟨bd.toArray⟩, .bool cl] ∧ IntOK mi ∧ DataW.trod enc Tryz.prog W base sp held ffs 29 [fs] = some yfs ∧ x.1 = .agg [.lit (.string me), .lit (.string ta), .lit (.int .i64 mi), yfs.1, .lit (.string bd), .lit (.bool cl)] := by
  cases fuel with
  | zero => simp [DataW.trod] at h
  | succ fuel =>
    obtain ⟨hl, xs, hxs, rfl⟩ := open_struct Tryz.underlying31 h
    rw [show Tryz.prog.cellsOf 31 = 6 by kernel_rfl] at hl
    match cs, hl with
    | [c0, c1, c2, c3, c4, c5], _ =>
      simp only [List.mapM_cons, List.mapM_nil, Option.bind_eq_bind, Option.bind_eq_some_iff, Option.pure_def, Option.some.injEq, show Tryz.prog.cellsOf 9 = 1 by kernel_rfl, show Tryz.prog.cellsOf 3 = 1 by kernel_rfl, show Tryz.prog.cellsOf 29 = 1 by kernel_rfl, show Tryz.prog.cellsOf 4 = 1 by kernel_rfl] at hxs
      obtain ⟨d0, e0, _, ⟨d1, e1, _, ⟨d2, e2, _, ⟨d3, e3, _, ⟨d4, e4, _, ⟨d5, e5, _, rfl, rfl⟩, rfl⟩, rfl⟩, rfl⟩, rfl⟩, rfl⟩ := hxs
      simp only [List.drop_zero, List.drop_succ_cons, List.take_succ_cons, List.take_zero] at e0 e1 e2 e3 e4 e5
      obtain ⟨s0, h0, rfl⟩ := open_str Tryz.underlying9 e0
      obtain ⟨s1, h1, rfl⟩ := open_str Tryz.underlying9 e1
      obtain ⟨s2, h2, w2, rfl⟩ := open_num Tryz.underlying3 e2
      obtain ⟨s4, h4, rfl⟩ := open_str Tryz.underlying9 e4
      obtain ⟨s5, h5, rfl⟩ := open_bit Tryz.underlying4 e5
      simp only [List.cons.injEq, and_true] at h0 h1 h2 h4 h5
      subst h0
      subst h1
      subst h2
      subst h4
      subst h5
      exact ⟨s0.data.toList, s1.data.toList, s2, c3, fuel, d3, s4.data.toList, s5, rfl, intOK_wf w2, e3, rfl⟩



theorem pairs_bulk {H : Type} : ∀ (l : List (List UInt8 × List UInt8)) (es : List (DataW H)), es.length = l.length → (∀ (i : Nat) (f : List UInt8 × List UInt8), l[i]? = some f → es[i]? = some (.agg [.lit (.string f.1), .lit (.string f.2)])) → (l.flatMap fieldT).length + l.length ≤ 2 * Rows.uptoBulkAll es
  | [], [], _, _ => by simp [Rows.uptoBulkAll]
  | f :: l, e :: es, hl, h => by
    have h0 := h 0 f rfl
    simp only [List.getElem?_cons_zero, Option.some.injEq] at h0
    subst h0
    have ih := pairs_bulk l es (by simpa using hl) (fun i t ht => by simpa using h (i + 1) t (by simpa using ht))
    have e1 : (fieldT f).length = f.1.length + f.2.length + 4 := by simp [fieldT]; omega
    have e2 : Rows.uptoBulk (.agg [.lit (.string f.1), .lit (.string f.2)] : DataW H) = f.1.length + f.2.length + 3 := by
      simp only [Rows.uptoBulk, Rows.uptoBulkAll]; omega
    simp only [Rows.uptoBulkAll, List.flatMap_cons, List.length_append, List.length_cons, e1, e2]
    omega
/-- the pairs of a slice that is read -/
theorem open_pairs {H : Type} {enc : TypeId × Value → H} {W : World} {held : Bool} {fuel : Nat} {cs : List Value} {x : DataW H × List MemPlace} (h : DataW.trod enc Tryz.prog W 0 (fun _ => true) held fuel 29 cs = some x) (hr : ∀ n ∈ DataW.weights Tryz.prog 29 x.1, n ≤ reachBytes) :
    ∃ (l : List (List UInt8 × List UInt8)) (v : Value), cs = [v] ∧ PairsAt W v l ∧ (l.flatMap fieldT).length + l.length ≤ 2 * Rows.uptoBulk x.1 := by
  obtain ⟨ls, a, c, es, sps, h1, hlc, h2, h3, h4, h5, h6⟩ := open_list (fun cs d (r : List UInt8 × List UInt8) => cs = [.string ⟨r.1.toArray⟩, .string ⟨r.2.toArray⟩] ∧ d = .agg [.lit (.string r.1), .lit (.string r.2)]) Tryz.underlying29 (of_decide_eq_true (by kernel_rfl))
    (fun _ _ _ h _ => by obtain ⟨nm, vl, h1, hx⟩ := opn_pair h; exact ⟨(nm, vl), h1, hx⟩) h hr
  rw [show Tryz.prog.bytesOf 58 = 32 by kernel_rfl] at h2
  unfold reachBytes at h2
  refine ⟨ls, _, h1, ⟨a, c, rfl, hlc, by omega, fun i r hi => ?_⟩, ?_⟩
  · obtain ⟨b, off, rfl, hc⟩ := h6 (by have := (List.getElem?_eq_some_iff.1 hi).1; omega)
    obtain ⟨cs', d, ⟨rfl, _⟩, _, hc⟩ := hc i r hi
    rw [show Tryz.prog.cellsOf 58 = 2 by kernel_rfl] at hc
    exact ⟨b, off, rfl, hc 0 _ rfl, hc 1 _ rfl⟩
  · have h7 := pairs_bulk ls es h3 fun i t ht => by
      obtain ⟨_, d, ⟨_, rfl⟩, hd⟩ := h5 i t ht
      exact hd
    have h8 := all_bulk h4
    omega

end Go.Proofs.YtdilmefeofdkmaaGreatDoor

/-
  WIRE: a list of requests, read as data, opened; its bulk.
-/
namespace Go.Proofs.YtdilmefeofdkmaaGreatDoor
open Go.RowKit

theorem askT_len (r : ReqV) (hm : IntOK r.minor) (hb : r.body.length ≤ 1000000000) : (askT r).length ≤ r.meth.length + r.target.length + r.body.length + (r.fields.flatMap fieldT).length + 150 := by
  have h1 := itoa_len30 r.minor hm
  have h2 := itoa_len30 (r.body.length : Int) ⟨by omega, by omega⟩
  have h3 : ((addLen r.body).flatMap fieldT).length ≤ 50 := by
    unfold addLen
    split
    · simp
    · simp only [List.flatMap_cons, List.flatMap_nil, List.append_nil, fieldT_len]
      simp only [longL, List.length_cons, List.length_nil]
      omega
  have h4 : ((addConn r.close r.minor).flatMap fieldT).length ≤ 30 := by
    unfold addConn
    split <;> split <;> decide
  unfold askT askHead fullV
  simp only [List.flatMap_append, List.length_append, List.length_cons, List.length_nil, http1L]
  omega
theorem reqs_bulk {H : Type} : ∀ (l : List (ReqV × Value)) (es : List (DataW H)), es.length = l.length → (∀ (i : Nat) (p : ReqV × Value), l[i]? = some p → ∃ d, es[i]? = some d ∧ (askT p.1).length ≤ 200 * Rows.uptoBulk d) → (l.map fun p => (askT p.1).length).sum ≤ 200 * Rows.uptoBulkAll es
  | [], [], _, _ => by simp
  | p :: l, e :: es, hl, h => by
    obtain ⟨d, h0, h1⟩ := h 0 p rfl
    simp only [List.getElem?_cons_zero, Option.some.injEq] at h0
    subst h0
    have ih := reqs_bulk l es (by simpa using hl) (fun i t ht => by simpa using h (i + 1) t (by simpa using ht))
    simp only [Rows.uptoBulkAll, List.map_cons, List.sum_cons]
    omega

set_option maxRecDepth 100000 in
/-- one request -/
theorem open_req1 {H : Type} {enc : TypeId × Value → H} {W : World} {held : Bool} {fuel : Nat} {cs : List Value} {x : DataW H × List MemPlace} (h : DataW.trod enc Tryz.prog W 0 (fun _ => true) held fuel 31 cs = some x) (hr : ∀ n ∈ DataW.weights Tryz.prog 31 x.1, n ≤ reachBytes) :
    ∃ p : ReqV × Value, cs = reqRow p ∧ PairsAt W p.2 p.1.fields ∧ IntOK p.1.minor ∧ (Rows.uptoBulk x.1 ≤ 1048576 → (askT p.1).length ≤ 200 * Rows.uptoBulk x.1) := by
  obtain ⟨me, ta, mi, fv, g0, y0, bd, cl, hc0, ost, t0, hx0⟩ := opn_req h
  obtain ⟨x1, x2⟩ := x
  simp only at hx0 hr ⊢
  subst hx0
  obtain ⟨ls, vv, hcs, hS, hbk⟩ := open_pairs t0 (fun m hm => hr m (by
    rw [DataW.weights, Tryz.underlying31]
    exact List.mem_append_right _ (List.mem_append_right _ (List.mem_append_right _ (List.mem_append_left _ hm)))))
  obtain rfl : fv = vv := by simpa using hcs
  refine ⟨(⟨me, ta, mi, ls, bd, cl⟩, fv), hc0, hS, ost, fun hb => ?_⟩
  have hb1 := hb
  simp only [Rows.uptoBulk, Rows.uptoBulkAll, bulks.string_eq] at hb1 ⊢
  have := askT_len ⟨me, ta, mi, ls, bd, cl⟩ ost (by simp only; omega)
  simp only at this
  omega
/-- the requests of a slice that is read -/
theorem open_reqs {H : Type} {enc : TypeId × Value → H} {W : World} {held : Bool} {fuel : Nat} {cs : List Value} {x : DataW H × List MemPlace} (h : DataW.trod enc Tryz.prog W 0 (fun _ => true) held fuel 24 cs = some x) (hr : ∀ n ∈ DataW.weights Tryz.prog 24 x.1, n ≤ reachBytes) (hb : Rows.uptoBulk x.1 ≤ 1048576) :
    ∃ (l : List (ReqV × Value)) (v : Value), cs = [v] ∧ ReqsIn W v l ∧ (∀ p ∈ l, IntOK p.1.minor) ∧ (l.map fun p => (askT p.1).length).sum ≤ 1000000000 ∧ l.length ≤ 100000000 := by
  obtain ⟨ls, a, c, es, sps, h1, _, h2, h3, h4, h5, h6⟩ := open_list (fun cs d (p : ReqV × Value) => cs = reqRow p ∧ PairsAt W p.2 p.1.fields ∧ IntOK p.1.minor ∧ (Rows.uptoBulk d ≤ 1048576 → (askT p.1).length ≤ 200 * Rows.uptoBulk d)) Tryz.underlying24 (of_decide_eq_true (by kernel_rfl))
    (fun _ _ _ h hr => open_req1 h hr) h hr
  rw [show Tryz.prog.bytesOf 31 = 88 by kernel_rfl] at h2
  unfold reachBytes at h2
  have h7 := all_bulk h4
  have h8 := bulks.length_le es
  have h9 := reqs_bulk ls es h3 fun i p hp => by
    obtain ⟨_, d, ⟨_, _, _, hq⟩, hd⟩ := h5 i p hp
    have := bulks.part_le (List.mem_of_getElem? hd)
    exact ⟨d, hd, hq (by omega)⟩
  refine ⟨ls, _, h1, ⟨⟨a, c, by rw [List.length_map], by rw [List.length_map]; omega, fun i r hi => ?_⟩, fun p hp => ?_⟩, fun p hp => ?_, by omega, by omega⟩
  · rw [List.getElem?_map, Option.map_eq_some_iff] at hi
    obtain ⟨p, hp, rfl⟩ := hi
    obtain ⟨b, off, rfl, hc⟩ := h6 (by have := (List.getElem?_eq_some_iff.1 hp).1; omega)
    obtain ⟨cs', d, ⟨rfl, _⟩, _, hc⟩ := hc i p hp
    rw [show Tryz.prog.cellsOf 31 = 6 by kernel_rfl] at hc
    exact ⟨b, off, rfl, hc⟩
  · obtain ⟨i, hi⟩ := List.getElem?_of_mem hp
    obtain ⟨_, d, ⟨_, hq, _, _⟩, _⟩ := h5 i p hi
    exact hq
  · obtain ⟨i, hi⟩ := List.getElem?_of_mem hp
    obtain ⟨_, d, ⟨_, _, hq, _⟩, _⟩ := h5 i p hi
    exact hq
end Go.Proofs.YtdilmefeofdkmaaGreatDoor
