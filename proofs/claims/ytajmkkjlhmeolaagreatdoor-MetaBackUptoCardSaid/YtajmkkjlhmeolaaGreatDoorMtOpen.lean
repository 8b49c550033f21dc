/-
  WHAT IS READ AS DATA, OPENED: rules, buckets, versions, uploads, parts, numbers (printed by wip/gen/mkopen.py).
-/
import Derived.Test.YtajmkkjlhmeolaaGreatDoorSm45
import Derived.Test.YtajmkkjlhmeolaaGreatDoorSm46
import Derived.Test.YtajmkkjlhmeolaaGreatDoorMtReadBk
namespace Go.Proofs.YtajmkkjlhmeolaaGreatDoor
open Go.RowKit

set_option maxRecDepth 100000 in
theorem opn_rule {H : Type} {enc : TypeId × Value → H} {W : World} {held : Bool} {base : Nat} {sp : Nat → Bool} {fuel : Nat} {cs : List Value} {x : DataW H × List MemPlace} (h : DataW.trod enc Tryz.prog W base sp held fuel 104 cs = some x) :
    ∃ (id : List UInt8) (pre : List UInt8) (on : Bool) (days : Int) (nonc : Int) (abort : Int), cs = [.string ⟨id.toArray⟩, .string ⟨pre.toArray⟩, .bool on, .int .i64 days, .int .i64 nonc, .int .i64 abort] ∧ IntOK days ∧ IntOK nonc ∧ IntOK abort ∧ x.1 = .agg [.lit (.string id), .lit (.string pre), .lit (.bool on), .lit (.int .i64 days), .lit (.int .i64 nonc), .lit (.int .i64 abort)] := by
  cases fuel with
  | zero => simp [DataW.trod] at h
  | succ fuel =>
    obtain ⟨hl, xs, hxs, rfl⟩ := open_struct Tryz.underlying104 h
    rw [show Tryz.prog.cellsOf 104 = 6 by kernel_rfl] at hl
    match cs, hl with
    | [c0, c1, c2, c3, c4, c5], _ =>
      simp only [List.mapM_cons, List.mapM_nil, Option.bind_eq_bind, Option.bind_eq_some_iff, Option.pure_def, Option.some.injEq, show Tryz.prog.cellsOf 9 = 1 by kernel_rfl, show Tryz.prog.cellsOf 4 = 1 by kernel_rfl, show Tryz.prog.cellsOf 3 = 1 by kernel_rfl] at hxs
      obtain ⟨d0, e0, _, ⟨d1, e1, _, ⟨d2, e2, _, ⟨d3, e3, _, ⟨d4, e4, _, ⟨d5, e5, _, rfl, rfl⟩, rfl⟩, rfl⟩, rfl⟩, rfl⟩, rfl⟩ := hxs
      simp only [List.drop_zero, List.drop_succ_cons, List.take_succ_cons, List.take_zero] at e0 e1 e2 e3 e4 e5
      obtain ⟨s0, h0, rfl⟩ := open_str Tryz.underlying9 e0
      obtain ⟨s1, h1, rfl⟩ := open_str Tryz.underlying9 e1
      obtain ⟨s2, h2, rfl⟩ := open_bit Tryz.underlying4 e2
      obtain ⟨s3, h3, w3, rfl⟩ := open_num Tryz.underlying3 e3
      obtain ⟨s4, h4, w4, rfl⟩ := open_num Tryz.underlying3 e4
      obtain ⟨s5, h5, w5, rfl⟩ := open_num Tryz.underlying3 e5
      simp only [List.cons.injEq, and_true] at h0 h1 h2 h3 h4 h5
      subst h0
      subst h1
      subst h2
      subst h3
      subst h4
      subst h5
      exact ⟨s0.data.toList, s1.data.toList, s2, s3, s4, s5, rfl, intOK_wf w3, intOK_wf w4, intOK_wf w5, rfl⟩

set_option maxRecDepth 100000 in
theorem opn_bucket {H : Type} {enc : TypeId × Value → H} {W : World} {held : Bool} {base : Nat} {sp : Nat → Bool} {fuel : Nat} {cs : List Value} {x : DataW H × List MemPlace} (h : DataW.trod enc Tryz.prog W base sp held fuel 41 cs = some x) :
    ∃ (n : List UInt8) (o : List UInt8) (p : List UInt8) (wh : Int) (md : Int) (rl : Value) (frl : Nat) (yrl : DataW H × List MemPlace), cs = [.string ⟨n.toArray⟩, .string ⟨o.toArray⟩, .string ⟨p.toArray⟩, .int .i64 wh, .int .i64 md, rl] ∧ IntOK wh ∧ IntOK md ∧ DataW.trod enc Tryz.prog W base sp held frl 39 [rl] = some yrl ∧ x.1 = .agg [.lit (.string n), .lit (.string o), .lit (.string p), .lit (.int .i64 wh), .lit (.int .i64 md), yrl.1] := by
  cases fuel with
  | zero => simp [DataW.trod] at h
  | succ fuel =>
    obtain ⟨hl, xs, hxs, rfl⟩ := open_struct Tryz.underlying41 h
    rw [show Tryz.prog.cellsOf 41 = 6 by kernel_rfl] at hl
    match cs, hl with
    | [c0, c1, c2, c3, c4, c5], _ =>
      simp only [List.mapM_cons, List.mapM_nil, Option.bind_eq_bind, Option.bind_eq_some_iff, Option.pure_def, Option.some.injEq, show Tryz.prog.cellsOf 9 = 1 by kernel_rfl, show Tryz.prog.cellsOf 3 = 1 by kernel_rfl, show Tryz.prog.cellsOf 39 = 1 by kernel_rfl] at hxs
      obtain ⟨d0, e0, _, ⟨d1, e1, _, ⟨d2, e2, _, ⟨d3, e3, _, ⟨d4, e4, _, ⟨d5, e5, _, rfl, rfl⟩, rfl⟩, rfl⟩, rfl⟩, rfl⟩, rfl⟩ := hxs
      simp only [List.drop_zero, List.drop_succ_cons, List.take_succ_cons, List.take_zero] at e0 e1 e2 e3 e4 e5
      obtain ⟨s0, h0, rfl⟩ := open_str Tryz.underlying9 e0
      obtain ⟨s1, h1, rfl⟩ := open_str Tryz.underlying9 e1
      obtain ⟨s2, h2, rfl⟩ := open_str Tryz.underlying9 e2
      obtain ⟨s3, h3, w3, rfl⟩ := open_num Tryz.underlying3 e3
      obtain ⟨s4, h4, w4, rfl⟩ := open_num Tryz.underlying3 e4
      simp only [List.cons.injEq, and_true] at h0 h1 h2 h3 h4
      subst h0
      subst h1
      subst h2
      subst h3
      subst h4
      exact ⟨s0.data.toList, s1.data.toList, s2.data.toList, s3, s4, c5, fuel, d5, rfl, intOK_wf w3, intOK_wf w4, e5, rfl⟩

set_option maxRecDepth 100000 in
theorem opn_version {H : Type} {enc : TypeId × Value → H} {W : World} {held : Bool} {base : Nat} {sp : Nat → Bool} {fuel : Nat} {cs : List Value} {x : DataW H × List MemPlace} (h : DataW.trod enc Tryz.prog W base sp held fuel 47 cs = some x) :
    ∃ (sq : Int) (nu : Bool) (mk : Bool) (et : List UInt8) (ty : List UInt8) (sz : Int) (wh : Int) (bl : Value) (fbl : Nat) (ybl : DataW H × List MemPlace), cs = [.int .i64 sq, .bool nu, .bool mk, .string ⟨et.toArray⟩, .string ⟨ty.toArray⟩, .int .i64 sz, .int .i64 wh, bl] ∧ IntOK sq ∧ IntOK sz ∧ IntOK wh ∧ DataW.trod enc Tryz.prog W base sp held fbl 45 [bl] = some ybl ∧ x.1 = .agg [.lit (.int .i64 sq), .lit (.bool nu), .lit (.bool mk), .lit (.string et), .lit (.string ty), .lit (.int .i64 sz), .lit (.int .i64 wh), ybl.1] := by
  cases fuel with
  | zero => simp [DataW.trod] at h
  | succ fuel =>
    obtain ⟨hl, xs, hxs, rfl⟩ := open_struct Tryz.underlying47 h
    rw [show Tryz.prog.cellsOf 47 = 8 by kernel_rfl] at hl
    match cs, hl with
    | [c0, c1, c2, c3, c4, c5, c6, c7], _ =>
      simp only [List.mapM_cons, List.mapM_nil, Option.bind_eq_bind, Option.bind_eq_some_iff, Option.pure_def, Option.some.injEq, show Tryz.prog.cellsOf 3 = 1 by kernel_rfl, show Tryz.prog.cellsOf 4 = 1 by kernel_rfl, show Tryz.prog.cellsOf 9 = 1 by kernel_rfl, show Tryz.prog.cellsOf 45 = 1 by kernel_rfl] at hxs
      obtain ⟨d0, e0, _, ⟨d1, e1, _, ⟨d2, e2, _, ⟨d3, e3, _, ⟨d4, e4, _, ⟨d5, e5, _, ⟨d6, e6, _, ⟨d7, e7, _, rfl, rfl⟩, rfl⟩, rfl⟩, rfl⟩, rfl⟩, rfl⟩, rfl⟩, rfl⟩ := hxs
      simp only [List.drop_zero, List.drop_succ_cons, List.take_succ_cons, List.take_zero] at e0 e1 e2 e3 e4 e5 e6 e7
      obtain ⟨s0, h0, w0, rfl⟩ := open_num Tryz.underlying3 e0
      obtain ⟨s1, h1, rfl⟩ := open_bit Tryz.underlying4 e1
      obtain ⟨s2, h2, rfl⟩ := open_bit Tryz.underlying4 e2
      obtain ⟨s3, h3, rfl⟩ := open_str Tryz.underlying9 e3
      obtain ⟨s4, h4, rfl⟩ := open_str Tryz.underlying9 e4
      obtain ⟨s5, h5, w5, rfl⟩ := open_num Tryz.underlying3 e5
      obtain ⟨s6, h6, w6, rfl⟩ := open_num Tryz.underlying3 e6
      simp only [List.cons.injEq, and_true] at h0 h1 h2 h3 h4 h5 h6
      subst h0
      subst h1
      subst h2
      subst h3
      subst h4
      subst h5
      subst h6
      exact ⟨s0, s1, s2, s3.data.toList, s4.data.toList, s5, s6, c7, fuel, d7, rfl, intOK_wf w0, intOK_wf w5, intOK_wf w6, e7, rfl⟩

set_option maxRecDepth 100000 in
theorem opn_upload {H : Type} {enc : TypeId × Value → H} {W : World} {held : Bool} {base : Nat} {sp : Nat → Bool} {fuel : Nat} {cs : List Value} {x : DataW H × List MemPlace} (h : DataW.trod enc Tryz.prog W base sp held fuel 52 cs = some x) :
    ∃ (sq : Int) (bu : List UInt8) (ke : List UInt8) (ty : List UInt8) (ow : List UInt8) (wh : Int) (pt : Value) (fpt : Nat) (ypt : DataW H × List MemPlace), cs = [.int .i64 sq, .string ⟨bu.toArray⟩, .string ⟨ke.toArray⟩, .string ⟨ty.toArray⟩, .string ⟨ow.toArray⟩, .int .i64 wh, pt] ∧ IntOK sq ∧ IntOK wh ∧ DataW.trod enc Tryz.prog W base sp held fpt 50 [pt] = some ypt ∧ x.1 = .agg [.lit (.int .i64 sq), .lit (.string bu), .lit (.string ke), .lit (.string ty), .lit (.string ow), .lit (.int .i64 wh), ypt.1] := by
  cases fuel with
  | zero => simp [DataW.trod] at h
  | succ fuel =>
    obtain ⟨hl, xs, hxs, rfl⟩ := open_struct Tryz.underlying52 h
    rw [show Tryz.prog.cellsOf 52 = 7 by kernel_rfl] at hl
    match cs, hl with
    | [c0, c1, c2, c3, c4, c5, c6], _ =>
      simp only [List.mapM_cons, List.mapM_nil, Option.bind_eq_bind, Option.bind_eq_some_iff, Option.pure_def, Option.some.injEq, show Tryz.prog.cellsOf 3 = 1 by kernel_rfl, show Tryz.prog.cellsOf 9 = 1 by kernel_rfl, show Tryz.prog.cellsOf 50 = 1 by kernel_rfl] at hxs
      obtain ⟨d0, e0, _, ⟨d1, e1, _, ⟨d2, e2, _, ⟨d3, e3, _, ⟨d4, e4, _, ⟨d5, e5, _, ⟨d6, e6, _, rfl, rfl⟩, rfl⟩, rfl⟩, rfl⟩, rfl⟩, rfl⟩, rfl⟩ := hxs
      simp only [List.drop_zero, List.drop_succ_cons, List.take_succ_cons, List.take_zero] at e0 e1 e2 e3 e4 e5 e6
      obtain ⟨s0, h0, w0, rfl⟩ := open_num Tryz.underlying3 e0
      obtain ⟨s1, h1, rfl⟩ := open_str Tryz.underlying9 e1
      obtain ⟨s2, h2, rfl⟩ := open_str Tryz.underlying9 e2
      obtain ⟨s3, h3, rfl⟩ := open_str Tryz.underlying9 e3
      obtain ⟨s4, h4, rfl⟩ := open_str Tryz.underlying9 e4
      obtain ⟨s5, h5, w5, rfl⟩ := open_num Tryz.underlying3 e5
      simp only [List.cons.injEq, and_true] at h0 h1 h2 h3 h4 h5
      subst h0
      subst h1
      subst h2
      subst h3
      subst h4
      subst h5
      exact ⟨s0, s1.data.toList, s2.data.toList, s3.data.toList, s4.data.toList, s5, c6, fuel, d6, rfl, intOK_wf w0, intOK_wf w5, e6, rfl⟩

set_option maxRecDepth 100000 in
theorem opn_part {H : Type} {enc : TypeId × Value → H} {W : World} {held : Bool} {base : Nat} {sp : Nat → Bool} {fuel : Nat} {cs : List Value} {x : DataW H × List MemPlace} (h : DataW.trod enc Tryz.prog W base sp held fuel 56 cs = some x) :
    ∃ (nm : Int) (sz : Int) (wh : Int) (et : List UInt8) (bl : Int), cs = [.int .i64 nm, .int .i64 sz, .int .i64 wh, .string ⟨et.toArray⟩, .int .i64 bl] ∧ IntOK nm ∧ IntOK sz ∧ IntOK wh ∧ IntOK bl ∧ x.1 = .agg [.lit (.int .i64 nm), .lit (.int .i64 sz), .lit (.int .i64 wh), .lit (.string et), .lit (.int .i64 bl)] := by
  cases fuel with
  | zero => simp [DataW.trod] at h
  | succ fuel =>
    obtain ⟨hl, xs, hxs, rfl⟩ := open_struct Tryz.underlying56 h
    rw [show Tryz.prog.cellsOf 56 = 5 by kernel_rfl] at hl
    match cs, hl with
    | [c0, c1, c2, c3, c4], _ =>
      simp only [List.mapM_cons, List.mapM_nil, Option.bind_eq_bind, Option.bind_eq_some_iff, Option.pure_def, Option.some.injEq, show Tryz.prog.cellsOf 3 = 1 by kernel_rfl, show Tryz.prog.cellsOf 9 = 1 by kernel_rfl] at hxs
      obtain ⟨d0, e0, _, ⟨d1, e1, _, ⟨d2, e2, _, ⟨d3, e3, _, ⟨d4, e4, _, rfl, rfl⟩, rfl⟩, rfl⟩, rfl⟩, rfl⟩ := hxs
      simp only [List.drop_zero, List.drop_succ_cons, List.take_succ_cons, List.take_zero] at e0 e1 e2 e3 e4
      obtain ⟨s0, h0, w0, rfl⟩ := open_num Tryz.underlying3 e0
      obtain ⟨s1, h1, w1, rfl⟩ := open_num Tryz.underlying3 e1
      obtain ⟨s2, h2, w2, rfl⟩ := open_num Tryz.underlying3 e2
      obtain ⟨s3, h3, rfl⟩ := open_str Tryz.underlying9 e3
      obtain ⟨s4, h4, w4, rfl⟩ := open_num Tryz.underlying3 e4
      simp only [List.cons.injEq, and_true] at h0 h1 h2 h3 h4
      subst h0
      subst h1
      subst h2
      subst h3
      subst h4
      exact ⟨s0, s1, s2, s3.data.toList, s4, rfl, intOK_wf w0, intOK_wf w1, intOK_wf w2, intOK_wf w4, rfl⟩

/-- the rules of a slice that is read -/
theorem opn_rules {H : Type} {enc : TypeId × Value → H} {W : World} {held : Bool} {fuel : Nat} {cs : List Value} {x : DataW H × List MemPlace} (h : DataW.trod enc Tryz.prog W 0 (fun _ => true) held fuel 39 cs = some x) (hr : ∀ n ∈ DataW.weights Tryz.prog 39 x.1, n ≤ reachBytes) :
    ∃ (ls : List RlV) (v : Value) (es sps : List (DataW H)), cs = [v] ∧ es.length = ls.length ∧ (x.1 = .slice es sps ∨ (es = [] ∧ x.1 = .nil)) ∧ SlAt W 6 v (rlRows ls) ∧
      ∀ (i : Nat) (r : RlV), ls[i]? = some r → (IntOK r.days ∧ IntOK r.nonc ∧ IntOK r.abort) ∧ es[i]? = some (.agg [.lit (.string r.id), .lit (.string r.pre), .lit (.bool r.on), .lit (.int .i64 r.days), .lit (.int .i64 r.nonc), .lit (.int .i64 r.abort)]) := by
  obtain ⟨ls, a, c, es, sps, h1, _, h2, h3, h4, h5, h6⟩ := open_list (fun cs d (r : RlV) => cs = r.cells ∧ (IntOK r.days ∧ IntOK r.nonc ∧ IntOK r.abort) ∧ d = .agg [.lit (.string r.id), .lit (.string r.pre), .lit (.bool r.on), .lit (.int .i64 r.days), .lit (.int .i64 r.nonc), .lit (.int .i64 r.abort)]) Tryz.underlying39 (of_decide_eq_true (by kernel_rfl))
    (fun _ _ _ h _ => by obtain ⟨id, pre, on, d, n, ab, h1, o1, o2, o3, hx⟩ := opn_rule h; exact ⟨⟨id, pre, on, d, n, ab⟩, h1, ⟨o1, o2, o3⟩, hx⟩) h hr
  rw [show Tryz.prog.bytesOf 104 = 64 by kernel_rfl] at h2
  unfold reachBytes at h2
  refine ⟨ls, _, es, sps, h1, h3, h4, ⟨a, c, by rw [rlRows_len], by rw [rlRows_len]; omega, fun i r hi => ?_⟩, fun i r hi => ?_⟩
  · simp only [rlRows, List.getElem?_map, Option.map_eq_some_iff] at hi
    obtain ⟨r', hr', rfl⟩ := hi
    obtain ⟨b, off, rfl, hc⟩ := h6 (by have := (List.getElem?_eq_some_iff.1 hr').1; omega)
    obtain ⟨cs', d, ⟨rfl, _⟩, _, hc⟩ := hc i r' hr'
    rw [show Tryz.prog.cellsOf 104 = 6 by kernel_rfl] at hc
    exact ⟨b, off, rfl, hc⟩
  · obtain ⟨_, d, ⟨_, ho, rfl⟩, hd⟩ := h5 i r hi
    exact ⟨ho, hd⟩
/-- the numbers of a slice that is read -/
theorem opn_ints {H : Type} {enc : TypeId × Value → H} {W : World} {held : Bool} {fuel : Nat} {cs : List Value} {x : DataW H × List MemPlace} (h : DataW.trod enc Tryz.prog W 0 (fun _ => true) held fuel 45 cs = some x) (hr : ∀ n ∈ DataW.weights Tryz.prog 45 x.1, n ≤ reachBytes) :
    ∃ (ls : List Int) (v : Value) (es sps : List (DataW H)), cs = [v] ∧ es.length = ls.length ∧ (x.1 = .slice es sps ∨ (es = [] ∧ x.1 = .nil)) ∧ SlAt W 1 v (intRows ls) ∧ ∀ n ∈ ls, IntOK n := by
  obtain ⟨ls, a, c, es, sps, h1, _, h2, h3, h4, h5, h6⟩ := open_list (fun cs (_ : DataW H) (n : Int) => cs = [.int .i64 n] ∧ IntOK n) Tryz.underlying45 (of_decide_eq_true (by kernel_rfl))
    (fun _ _ _ h _ => by obtain ⟨n, h1, w, _⟩ := open_num Tryz.underlying3 h; exact ⟨n, h1, intOK_wf w⟩) h hr
  rw [show Tryz.prog.bytesOf 3 = 8 by kernel_rfl] at h2
  unfold reachBytes at h2
  refine ⟨ls, _, es, sps, h1, h3, h4, ⟨a, c, by rw [intRows_len], by rw [intRows_len]; omega, fun i r hi => ?_⟩, fun n hn => ?_⟩
  · simp only [intRows, List.getElem?_map, Option.map_eq_some_iff] at hi
    obtain ⟨r', hr', rfl⟩ := hi
    obtain ⟨b, off, rfl, hc⟩ := h6 (by have := (List.getElem?_eq_some_iff.1 hr').1; omega)
    obtain ⟨cs', d, ⟨rfl, _⟩, _, hc⟩ := hc i r' hr'
    rw [show Tryz.prog.cellsOf 3 = 1 by kernel_rfl] at hc
    exact ⟨b, off, rfl, hc⟩
  · obtain ⟨i, hi⟩ := List.getElem?_of_mem hn
    obtain ⟨_, _, ⟨_, ho⟩, _⟩ := h5 i n hi
    exact ho
/-- a slice's one cell -/
theorem opn_slice {H : Type} {enc : TypeId × Value → H} {W : World} {held : Bool} {base : Nat} {sp : Nat → Bool} {t e : TypeId} {fuel : Nat} {v : Value} {x : DataW H × List MemPlace} (hu : Tryz.prog.underlying t = some (.slice e)) (h : DataW.trod enc Tryz.prog W base sp held fuel t [v] = some x) : ∃ a n c, v = .slice a n c := by
  cases fuel with
  | zero => simp [DataW.trod] at h
  | succ fuel =>
    rcases open_sl hu h with ⟨h2, _⟩ | ⟨a, len, cap, _, _, h2, _⟩
    · simp only [List.cons.injEq, and_true] at h2; exact ⟨_, _, _, h2⟩
    · simp only [List.cons.injEq, and_true] at h2; exact ⟨_, _, _, h2⟩

end Go.Proofs.YtajmkkjlhmeolaaGreatDoor
