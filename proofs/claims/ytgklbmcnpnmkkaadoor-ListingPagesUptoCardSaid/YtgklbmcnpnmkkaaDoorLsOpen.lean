/-
  ROWS that are read as data, opened. (Printed by wip/gen/lsopen.py.)
-/
import Derived.Test.YtgklbmcnpnmkkaaDoorSm42
import Derived.Test.YtgklbmcnpnmkkaaDoorLsRow
namespace Go.Proofs.YtgklbmcnpnmkkaaDoor
open Go.RowKit

theorem intOK_wf {n : Int} (h : (Lit.int .i64 n).wf = true) : IntOK n := by
  unfold IntOK
  simpa [Lit.wf, IntKind.min, IntKind.max, IntKind.signed, IntKind.bits] using h
set_option maxRecDepth 100000 in
theorem opn_version {H : Type} {enc : TypeId × Value → H} {W : World} {held : Bool} {base : Nat} {sp : Nat → Bool} {fuel : Nat} {cs : List Value} {x : DataW H × List MemPlace} (h : DataW.trod enc Tryd.prog W base sp held fuel 31 cs = some x) :
    ∃ (sq : Int) (nu : Bool) (mk : Bool) (et : List UInt8) (ty : List UInt8) (sz : Int) (wh : Int) (bl : Value) (fbl : Nat) (ybl : DataW H × List MemPlace), cs = [.int .i64 sq, .bool nu, .bool mk, .string ⟨et.toArray⟩, .string ⟨ty.toArray⟩, .int .i64 sz, .int .i64 wh, bl] ∧ IntOK sq ∧ IntOK sz ∧ IntOK wh ∧ DataW.trod enc Tryd.prog W base sp held fbl 29 [bl] = some ybl ∧ x.1 = .agg [.lit (.int .i64 sq), .lit (.bool nu), .lit (.bool mk), .lit (.string et), .lit (.string ty), .lit (.int .i64 sz), .lit (.int .i64 wh), ybl.1] := by
  cases fuel with
  | zero => simp [DataW.trod] at h
  | succ fuel =>
    obtain ⟨hl, xs, hxs, rfl⟩ := open_struct Tryd.underlying31 h
    rw [show Tryd.prog.cellsOf 31 = 8 by kernel_rfl] at hl
    match cs, hl with
    | [c0, c1, c2, c3, c4, c5, c6, c7], _ =>
      simp only [List.mapM_cons, List.mapM_nil, Option.bind_eq_bind, Option.bind_eq_some_iff, Option.pure_def, Option.some.injEq, show Tryd.prog.cellsOf 3 = 1 by kernel_rfl, show Tryd.prog.cellsOf 4 = 1 by kernel_rfl, show Tryd.prog.cellsOf 9 = 1 by kernel_rfl, show Tryd.prog.cellsOf 29 = 1 by kernel_rfl] at hxs
      obtain ⟨d0, e0, _, ⟨d1, e1, _, ⟨d2, e2, _, ⟨d3, e3, _, ⟨d4, e4, _, ⟨d5, e5, _, ⟨d6, e6, _, ⟨d7, e7, _, rfl, rfl⟩, rfl⟩, rfl⟩, rfl⟩, rfl⟩, rfl⟩, rfl⟩, rfl⟩ := hxs
      simp only [List.drop_zero, List.drop_succ_cons, List.take_succ_cons, List.take_zero] at e0 e1 e2 e3 e4 e5 e6 e7
      obtain ⟨s0, h0, w0, rfl⟩ := open_num Tryd.underlying3 e0
      obtain ⟨s1, h1, rfl⟩ := open_bit Tryd.underlying4 e1
      obtain ⟨s2, h2, rfl⟩ := open_bit Tryd.underlying4 e2
      obtain ⟨s3, h3, rfl⟩ := open_str Tryd.underlying9 e3
      obtain ⟨s4, h4, rfl⟩ := open_str Tryd.underlying9 e4
      obtain ⟨s5, h5, w5, rfl⟩ := open_num Tryd.underlying3 e5
      obtain ⟨s6, h6, w6, rfl⟩ := open_num Tryd.underlying3 e6
      simp only [List.cons.injEq, and_true] at h0 h1 h2 h3 h4 h5 h6
      subst h0
      subst h1
      subst h2
      subst h3
      subst h4
      subst h5
      subst h6
      exact ⟨s0, s1, s2, s3.data.toList, s4.data.toList, s5, s6, c7, fuel, d7, rfl, intOK_wf w0, intOK_wf w5, intOK_wf w6, e7, rfl⟩


set_option maxRecDepth 100000 in
theorem opn_upload {H : Type} {enc : TypeId × Value → H} {W : World} {held : Bool} {base : Nat} {sp : Nat → Bool} {fuel : Nat} {cs : List Value} {x : DataW H × List MemPlace} (h : DataW.trod enc Tryd.prog W base sp held fuel 34 cs = some x) :
    ∃ (sq : Int) (bu : List UInt8) (ke : List UInt8) (ty : List UInt8) (ow : List UInt8) (wh : Int) (pt : Value) (fpt : Nat) (ypt : DataW H × List MemPlace), cs = [.int .i64 sq, .string ⟨bu.toArray⟩, .string ⟨ke.toArray⟩, .string ⟨ty.toArray⟩, .string ⟨ow.toArray⟩, .int .i64 wh, pt] ∧ IntOK sq ∧ IntOK wh ∧ DataW.trod enc Tryd.prog W base sp held fpt 32 [pt] = some ypt ∧ x.1 = .agg [.lit (.int .i64 sq), .lit (.string bu), .lit (.string ke), .lit (.string ty), .lit (.string ow), .lit (.int .i64 wh), ypt.1] := by
  cases fuel with
  | zero => simp [DataW.trod] at h
  | succ fuel =>
    obtain ⟨hl, xs, hxs, rfl⟩ := open_struct Tryd.underlying34 h
    rw [show Tryd.prog.cellsOf 34 = 7 by kernel_rfl] at hl
    match cs, hl with
    | [c0, c1, c2, c3, c4, c5, c6], _ =>
      simp only [List.mapM_cons, List.mapM_nil, Option.bind_eq_bind, Option.bind_eq_some_iff, Option.pure_def, Option.some.injEq, show Tryd.prog.cellsOf 3 = 1 by kernel_rfl, show Tryd.prog.cellsOf 9 = 1 by kernel_rfl, show Tryd.prog.cellsOf 32 = 1 by kernel_rfl] at hxs
      obtain ⟨d0, e0, _, ⟨d1, e1, _, ⟨d2, e2, _, ⟨d3, e3, _, ⟨d4, e4, _, ⟨d5, e5, _, ⟨d6, e6, _, rfl, rfl⟩, rfl⟩, rfl⟩, rfl⟩, rfl⟩, rfl⟩, rfl⟩ := hxs
      simp only [List.drop_zero, List.drop_succ_cons, List.take_succ_cons, List.take_zero] at e0 e1 e2 e3 e4 e5 e6
      obtain ⟨s0, h0, w0, rfl⟩ := open_num Tryd.underlying3 e0
      obtain ⟨s1, h1, rfl⟩ := open_str Tryd.underlying9 e1
      obtain ⟨s2, h2, rfl⟩ := open_str Tryd.underlying9 e2
      obtain ⟨s3, h3, rfl⟩ := open_str Tryd.underlying9 e3
      obtain ⟨s4, h4, rfl⟩ := open_str Tryd.underlying9 e4
      obtain ⟨s5, h5, w5, rfl⟩ := open_num Tryd.underlying3 e5
      simp only [List.cons.injEq, and_true] at h0 h1 h2 h3 h4 h5
      subst h0
      subst h1
      subst h2
      subst h3
      subst h4
      subst h5
      exact ⟨s0, s1.data.toList, s2.data.toList, s3.data.toList, s4.data.toList, s5, c6, fuel, d6, rfl, intOK_wf w0, intOK_wf w5, e6, rfl⟩


set_option maxRecDepth 100000 in
theorem opn_part {H : Type} {enc : TypeId × Value → H} {W : World} {held : Bool} {base : Nat} {sp : Nat → Bool} {fuel : Nat} {cs : List Value} {x : DataW H × List MemPlace} (h : DataW.trod enc Tryd.prog W base sp held fuel 68 cs = some x) :
    ∃ (nm : Int) (sz : Int) (wh : Int) (et : List UInt8) (bl : Int), cs = [.int .i64 nm, .int .i64 sz, .int .i64 wh, .string ⟨et.toArray⟩, .int .i64 bl] ∧ IntOK nm ∧ IntOK sz ∧ IntOK wh ∧ IntOK bl ∧ x.1 = .agg [.lit (.int .i64 nm), .lit (.int .i64 sz), .lit (.int .i64 wh), .lit (.string et), .lit (.int .i64 bl)] := by
  cases fuel with
  | zero => simp [DataW.trod] at h
  | succ fuel =>
    obtain ⟨hl, xs, hxs, rfl⟩ := open_struct Tryd.underlying68 h
    rw [show Tryd.prog.cellsOf 68 = 5 by kernel_rfl] at hl
    match cs, hl with
    | [c0, c1, c2, c3, c4], _ =>
      simp only [List.mapM_cons, List.mapM_nil, Option.bind_eq_bind, Option.bind_eq_some_iff, Option.pure_def, Option.some.injEq, show Tryd.prog.cellsOf 3 = 1 by kernel_rfl, show Tryd.prog.cellsOf 9 = 1 by kernel_rfl] at hxs
      obtain ⟨d0, e0, _, ⟨d1, e1, _, ⟨d2, e2, _, ⟨d3, e3, _, ⟨d4, e4, _, rfl, rfl⟩, rfl⟩, rfl⟩, rfl⟩, rfl⟩ := hxs
      simp only [List.drop_zero, List.drop_succ_cons, List.take_succ_cons, List.take_zero] at e0 e1 e2 e3 e4
      obtain ⟨s0, h0, w0, rfl⟩ := open_num Tryd.underlying3 e0
      obtain ⟨s1, h1, w1, rfl⟩ := open_num Tryd.underlying3 e1
      obtain ⟨s2, h2, w2, rfl⟩ := open_num Tryd.underlying3 e2
      obtain ⟨s3, h3, rfl⟩ := open_str Tryd.underlying9 e3
      obtain ⟨s4, h4, w4, rfl⟩ := open_num Tryd.underlying3 e4
      simp only [List.cons.injEq, and_true] at h0 h1 h2 h3 h4
      subst h0
      subst h1
      subst h2
      subst h3
      subst h4
      exact ⟨s0, s1, s2, s3.data.toList, s4, rfl, intOK_wf w0, intOK_wf w1, intOK_wf w2, intOK_wf w4, rfl⟩


section
variable {H : Type} {enc : TypeId × Value → H} {W : World} {held : Bool}
theorem opn_blobs {fuel : Nat} {v : Value} {x : DataW H × List MemPlace} (h : DataW.trod enc Tryd.prog W 0 (fun _ => true) held fuel 29 [v] = some x) (hr : ∀ n ∈ DataW.weights Tryd.prog 29 x.1, n ≤ reachBytes) :
    ∃ ls : List Int, SlAt W 1 v (blobCells ls) ∧ ls.length ≤ 17592186043904 := by
  obtain ⟨ls, a, c, es, sps, h1, _, h2, h3, h4, h5, h6⟩ := open_list (fun cs (_ : DataW H) (n : Int) => cs = [.int .i64 n] ∧ IntOK n) Tryd.underlying29 (of_decide_eq_true (by kernel_rfl))
    (fun _ _ _ h _ => by obtain ⟨n, h1, w, _⟩ := open_num Tryd.underlying3 h; exact ⟨n, h1, intOK_wf w⟩) h hr
  simp only [List.cons.injEq, and_true] at h1
  rw [show Tryd.prog.bytesOf 3 = 8 by kernel_rfl] at h2
  unfold reachBytes at h2
  refine ⟨ls, ⟨a, c, by rw [h1]; unfold blobCells; rw [List.length_map], by unfold blobCells; rw [List.length_map]; omega, fun i r hi => ?_⟩, by omega⟩
  unfold blobCells at hi
  rw [List.getElem?_map, Option.map_eq_some_iff] at hi
  obtain ⟨r', hr', rfl⟩ := hi
  obtain ⟨b, off, rfl, hc⟩ := h6 (by have := (List.getElem?_eq_some_iff.1 hr').1; omega)
  obtain ⟨cs', d, ⟨rfl, _⟩, _, hc⟩ := hc i r' hr'
  rw [show Tryd.prog.cellsOf 3 = 1 by kernel_rfl] at hc
  exact ⟨b, off, rfl, hc⟩
theorem opn_parts {fuel : Nat} {v : Value} {x : DataW H × List MemPlace} (h : DataW.trod enc Tryd.prog W 0 (fun _ => true) held fuel 32 [v] = some x) (hr : ∀ n ∈ DataW.weights Tryd.prog 32 x.1, n ≤ reachBytes) :
    ∃ ls : List PartD, SlAt W 5 v (partCells ls) ∧ ls.length ≤ 2932031007317 := by
  obtain ⟨ls, a, c, es, sps, h1, _, h2, h3, h4, h5, h6⟩ := open_list (fun cs (_ : DataW H) (n : PartD) => cs = n.cells) Tryd.underlying32 (of_decide_eq_true (by kernel_rfl))
    (fun _ _ _ h _ => by obtain ⟨nm, sz, wh, et, bl, h1, _⟩ := opn_part h; exact ⟨⟨nm, sz, wh, et, bl⟩, h1⟩) h hr
  simp only [List.cons.injEq, and_true] at h1
  rw [show Tryd.prog.bytesOf 68 = 48 by kernel_rfl] at h2
  unfold reachBytes at h2
  refine ⟨ls, ⟨a, c, by rw [h1]; unfold partCells; rw [List.length_map], by unfold partCells; rw [List.length_map]; omega, fun i r hi => ?_⟩, by omega⟩
  unfold partCells at hi
  rw [List.getElem?_map, Option.map_eq_some_iff] at hi
  obtain ⟨r', hr', rfl⟩ := hi
  obtain ⟨b, off, rfl, hc⟩ := h6 (by have := (List.getElem?_eq_some_iff.1 hr').1; omega)
  obtain ⟨cs', d, rfl, _, hc⟩ := hc i r' hr'
  rw [show Tryd.prog.cellsOf 68 = 5 by kernel_rfl] at hc
  exact ⟨b, off, rfl, hc⟩
/-- what a row's reading says of it -/
def RowSaid (W : World) (cs : List Value) (d : DataW H) (p : RowV) : Prop :=
  cs = p.cells ∧ RowIn W p ∧ SizeOK p.d ∧ p.d.key.length ≤ 140737488351232 ∧ ∃ d1 d2 d3 d4 : DataW H, d = .agg [.lit (.string p.d.key), d1, d2, d3, d4]
theorem weights_ver (z0 z1 z2 z3 z4 z5 z6 z7 : DataW H) : DataW.weights Tryd.prog 31 (.agg [z0, z1, z2, z3, z4, z5, z6, z7]) = DataW.weights Tryd.prog 3 z0 ++ (DataW.weights Tryd.prog 4 z1 ++ (DataW.weights Tryd.prog 4 z2 ++ (DataW.weights Tryd.prog 9 z3 ++ (DataW.weights Tryd.prog 9 z4 ++ (DataW.weights Tryd.prog 3 z5 ++ (DataW.weights Tryd.prog 3 z6 ++ (DataW.weights Tryd.prog 29 z7 ++ []))))))) := by
  rw [DataW.weights, Tryd.underlying31]; rfl
theorem weights_upl (z0 z1 z2 z3 z4 z5 z6 : DataW H) : DataW.weights Tryd.prog 34 (.agg [z0, z1, z2, z3, z4, z5, z6]) = DataW.weights Tryd.prog 3 z0 ++ (DataW.weights Tryd.prog 9 z1 ++ (DataW.weights Tryd.prog 9 z2 ++ (DataW.weights Tryd.prog 9 z3 ++ (DataW.weights Tryd.prog 9 z4 ++ (DataW.weights Tryd.prog 3 z5 ++ (DataW.weights Tryd.prog 32 z6 ++ [])))))) := by
  rw [DataW.weights, Tryd.underlying34]; rfl
theorem weights_row (s : List UInt8) (z1 z2 z3 z4 : DataW H) : DataW.weights Tryd.prog 36 (.agg [.lit (.string s), z1, z2, z3, z4]) = [s.length] ++ (DataW.weights Tryd.prog 4 z1 ++ (DataW.weights Tryd.prog 4 z2 ++ (DataW.weights Tryd.prog 31 z3 ++ (DataW.weights Tryd.prog 34 z4 ++ [])))) := by
  rw [DataW.weights, Tryd.underlying36]; rfl
set_option maxRecDepth 100000 in
theorem opn_row {fuel : Nat} {cs : List Value} {x : DataW H × List MemPlace} (h : DataW.trod enc Tryd.prog W 0 (fun _ => true) held fuel 36 cs = some x) (hr : ∀ n ∈ DataW.weights Tryd.prog 36 x.1, n ≤ reachBytes) :
    ∃ p : RowV, RowSaid W cs x.1 p := by
  cases fuel with
  | zero => simp [DataW.trod] at h
  | succ fuel =>
    obtain ⟨hl, xs, hxs, rfl⟩ := open_struct Tryd.underlying36 h
    rw [show Tryd.prog.cellsOf 36 = 18 by kernel_rfl] at hl
    match cs, hl with
    | [c0, c1, c2, c3, c4, c5, c6, c7, c8, c9, c10, c11, c12, c13, c14, c15, c16, c17], _ =>
      simp only [List.mapM_cons, List.mapM_nil, Option.bind_eq_bind, Option.bind_eq_some_iff, Option.pure_def, Option.some.injEq, show Tryd.prog.cellsOf 9 = 1 by kernel_rfl, show Tryd.prog.cellsOf 4 = 1 by kernel_rfl, show Tryd.prog.cellsOf 31 = 8 by kernel_rfl, show Tryd.prog.cellsOf 34 = 7 by kernel_rfl] at hxs
      obtain ⟨y0, e0, _, ⟨y1, e1, _, ⟨y2, e2, _, ⟨y3, e3, _, ⟨y4, e4, _, rfl, rfl⟩, rfl⟩, rfl⟩, rfl⟩, rfl⟩ := hxs
      simp only [List.drop_zero, List.drop_succ_cons, List.take_succ_cons, List.take_zero] at e0 e1 e2 e3 e4
      obtain ⟨s0, h0, rfl⟩ := open_str Tryd.underlying9 e0
      obtain ⟨s1, h1, rfl⟩ := open_bit Tryd.underlying4 e1
      obtain ⟨s2, h2, rfl⟩ := open_bit Tryd.underlying4 e2
      obtain ⟨sq, nu, mk, et, ty, sz, wh, bl, fbl, ybl, h3, _, _, _, tb, hx3⟩ := opn_version e3
      obtain ⟨usq, ubu, uke, uty, uow, uwh, pt, fpt, ypt, h4, _, _, tp, hx4⟩ := opn_upload e4
      have hr' : ∀ n ∈ DataW.weights Tryd.prog 36 (.agg [.lit (.string s0.data.toList), .lit (.bool s1), .lit (.bool s2), y3.1, y4.1] : DataW H), n ≤ reachBytes := hr
      rw [weights_row] at hr'
      have hk := hr' s0.data.toList.length (by simp)
      unfold reachBytes at hk
      have hv : ∀ n ∈ DataW.weights Tryd.prog 29 ybl.1, n ≤ reachBytes := fun n hn => hr' n (by
        have : n ∈ DataW.weights Tryd.prog 31 y3.1 := by
          rw [hx3, weights_ver]
          simp only [List.mem_append]
          exact .inr (.inr (.inr (.inr (.inr (.inr (.inr (.inl hn)))))))
        simp only [List.mem_append]
        exact .inr (.inr (.inr (.inl this))))
      have hp : ∀ n ∈ DataW.weights Tryd.prog 32 ypt.1, n ≤ reachBytes := fun n hn => hr' n (by
        have : n ∈ DataW.weights Tryd.prog 34 y4.1 := by
          rw [hx4, weights_upl]
          simp only [List.mem_append]
          exact .inr (.inr (.inr (.inr (.inr (.inr (.inl hn))))))
        simp only [List.mem_append]
        exact .inr (.inr (.inr (.inr (.inl this)))))
      obtain ⟨bs, hbs, hbl⟩ := opn_blobs tb hv
      obtain ⟨qs, hqs, hql⟩ := opn_parts tp hp
      simp only [List.cons.injEq, and_true] at h0 h1 h2
      subst h0 h1 h2
      refine ⟨⟨⟨s0.data.toList, s1, s2, ⟨sq, nu, mk, et, ty, sz, wh, bs⟩, ⟨usq, ubu, uke, uty, uow, uwh, qs⟩⟩, bl, pt⟩, ?_, ⟨hbs, hqs⟩, ⟨hbl, hql⟩, by omega, _, _, _, _, rfl⟩
      have e : [Value.string s0, .bool s1, .bool s2, c3, c4, c5, c6, c7, c8, c9, c10, c11, c12, c13, c14, c15, c16, c17] = [Value.string s0, .bool s1, .bool s2] ++ [c3, c4, c5, c6, c7, c8, c9, c10] ++ [c11, c12, c13, c14, c15, c16, c17] := rfl
      rw [e, h3, h4]
      rfl
/-- the rows of a slice that is read -/
theorem opn_rows {fuel : Nat} {cs : List Value} {x : DataW H × List MemPlace} (h : DataW.trod enc Tryd.prog W 0 (fun _ => true) held fuel 22 cs = some x) (hr : ∀ n ∈ DataW.weights Tryd.prog 22 x.1, n ≤ reachBytes) :
    ∃ (ps : List RowV) (a : Option Addr) (c : Nat) (es sps : List (DataW H)), cs = [.slice a ps.length c] ∧ es.length = ps.length ∧ (x.1 = .slice es sps ∨ (es = [] ∧ x.1 = .nil)) ∧ RowsIn W (.slice a ps.length c) ps ∧ ps.length ≤ 651562446070 ∧
      (∀ p ∈ ps, SizeOK p.d ∧ p.d.key.length ≤ 140737488351232) ∧ ∀ (i : Nat) (p : RowV), ps[i]? = some p → ∃ d1 d2 d3 d4 : DataW H, es[i]? = some (.agg [.lit (.string p.d.key), d1, d2, d3, d4]) := by
  obtain ⟨ps, a, c, es, sps, h1, h0, h2, h3, h4, h5, h6⟩ := open_list (RowSaid (H := H) W) Tryd.underlying22 (of_decide_eq_true (by kernel_rfl)) (fun _ _ _ h hr => opn_row h hr) h hr
  rw [show Tryd.prog.bytesOf 36 = 216 by kernel_rfl] at h2
  unfold reachBytes at h2
  refine ⟨ps, a, c, es, sps, h1, h3, h4, ⟨⟨a, c, by rw [List.length_map], by rw [List.length_map]; omega, fun i r hi => ?_⟩, fun p hp => ?_⟩, by omega, fun p hp => ?_, fun i p hi => ?_⟩
  · rw [List.getElem?_map, Option.map_eq_some_iff] at hi
    obtain ⟨r', hr', rfl⟩ := hi
    obtain ⟨b, off, rfl, hc⟩ := h6 (by have := (List.getElem?_eq_some_iff.1 hr').1; omega)
    obtain ⟨cs', d, ⟨rfl, _⟩, _, hc⟩ := hc i r' hr'
    rw [show Tryd.prog.cellsOf 36 = 18 by kernel_rfl] at hc
    exact ⟨b, off, rfl, hc⟩
  · obtain ⟨i, hi⟩ := List.getElem?_of_mem hp
    obtain ⟨_, _, ⟨_, h, _⟩, _⟩ := h5 i p hi
    exact h
  · obtain ⟨i, hi⟩ := List.getElem?_of_mem hp
    obtain ⟨_, _, ⟨_, _, h, hk, _⟩, _⟩ := h5 i p hi
    exact ⟨h, hk⟩
  · obtain ⟨_, d, ⟨_, _, _, _, d1, d2, d3, d4, rfl⟩, hd⟩ := h5 i p hi
    exact ⟨d1, d2, d3, d4, hd⟩
end
end Go.Proofs.YtgklbmcnpnmkkaaDoor
