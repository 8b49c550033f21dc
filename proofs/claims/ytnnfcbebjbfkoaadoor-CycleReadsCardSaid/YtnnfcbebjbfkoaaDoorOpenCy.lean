/-
  RULES, VERSIONS, UPLOADS, ROWS that are read as data.
-/
import Derived.Test.YtnnfcbebjbfkoaaDoorOpenList
import Derived.Test.YtnnfcbebjbfkoaaDoorCyNext
namespace Go.Proofs.YtnnfcbebjbfkoaaDoor
open Go.RowKit

theorem intOK_of_wf {n : Int} (h : (Lit.int .i64 n).wf = true) : IntOK n := by
  unfold IntOK
  simpa [Lit.wf, IntKind.min, IntKind.max, IntKind.signed, IntKind.bits] using h

section
variable {H : Type} {enc : TypeId × Value → H} {W : World} {held : Bool} {base : Nat} {sp : Nat → Bool}

theorem cells1s : Tryd.prog.cellsOf 9 = 1 := by kernel_rfl
theorem cells1i : Tryd.prog.cellsOf 3 = 1 := by kernel_rfl
theorem cells1b : Tryd.prog.cellsOf 4 = 1 := by kernel_rfl
theorem cells1is : Tryd.prog.cellsOf 36 = 1 := by kernel_rfl
theorem cells1ps : Tryd.prog.cellsOf 45 = 1 := by kernel_rfl
theorem cells1rs : Tryd.prog.cellsOf 26 = 1 := by kernel_rfl
theorem cellsRule : Tryd.prog.cellsOf 34 = 6 := by kernel_rfl
theorem cellsVer : Tryd.prog.cellsOf 56 = 8 := by kernel_rfl
theorem cellsUp : Tryd.prog.cellsOf 59 = 7 := by kernel_rfl
theorem cellsRow : Tryd.prog.cellsOf 61 = 18 := by kernel_rfl
theorem cellsBucket : Tryd.prog.cellsOf 41 = 6 := by kernel_rfl

set_option maxRecDepth 100000 in
theorem open_rule {fuel : Nat} {cs : List Value} {x : DataW H × List MemPlace} (h : DataW.trod enc Tryd.prog W base sp held fuel 34 cs = some x) :
    ∃ r : RuleW, cs = r.val.cells ∧ ∃ y : DataW H, x = (.agg [.lit (.string r.val.id.data.toList), .lit (.string r.val.pre.data.toList), y, .lit (.int .i64 r.val.days), .lit (.int .i64 r.val.nonc), .lit (.int .i64 r.val.abort)], []) := by
  cases fuel with
  | zero => simp [DataW.trod] at h
  | succ fuel =>
    obtain ⟨hl, xs, hxs, rfl⟩ := open_struct Tryd.underlying34 h
    rw [cellsRule] at hl
    match cs, hl with
    | [c0, c1, c2, c3, c4, c5], _ =>
      simp only [List.mapM_cons, List.mapM_nil, Option.bind_eq_bind, Option.bind_eq_some_iff, Option.pure_def, Option.some.injEq, cells1s, cells1i, cells1b] at hxs
      obtain ⟨y0, e0, _, ⟨y1, e1, _, ⟨y2, e2, _, ⟨y3, e3, _, ⟨y4, e4, _, ⟨y5, e5, _, rfl, rfl⟩, rfl⟩, rfl⟩, rfl⟩, rfl⟩, rfl⟩ := hxs
      simp only [List.drop_zero, List.drop_succ_cons, List.take_succ_cons, List.take_zero] at e0 e1 e2 e3 e4 e5
      obtain ⟨s0, h0, rfl⟩ := open_str Tryd.underlying9 e0
      obtain ⟨s1, h1, rfl⟩ := open_str Tryd.underlying9 e1
      obtain ⟨s2, h2, rfl⟩ := open_bit Tryd.underlying4 e2
      obtain ⟨s3, h3, w3, rfl⟩ := open_num Tryd.underlying3 e3
      obtain ⟨s4, h4, w4, rfl⟩ := open_num Tryd.underlying3 e4
      obtain ⟨s5, h5, w5, rfl⟩ := open_num Tryd.underlying3 e5
      simp only [List.cons.injEq, and_true] at h0 h1 h2 h3 h4 h5
      subst h0 h1 h2 h3 h4 h5
      exact ⟨⟨⟨s0, s1, s2, s3, s4, s5⟩, intOK_of_wf w3, intOK_of_wf w4, intOK_of_wf w5⟩, rfl, _, rfl⟩

/-- a slice's reading: its one cell -/
theorem open_slice_cell {t e : TypeId} {fuel : Nat} {cs : List Value} {x : DataW H × List MemPlace} (hu : Tryd.prog.underlying t = some (.slice e)) (h : DataW.trod enc Tryd.prog W base sp held fuel t cs = some x) : ∃ a n c, cs = [.slice a n c] := by
  cases fuel with
  | zero => simp [DataW.trod] at h
  | succ fuel =>
    rcases open_sl hu h with ⟨h2, _⟩ | ⟨a, len, cap, _, _, h2, _⟩
    · exact ⟨_, _, _, h2⟩
    · exact ⟨_, _, _, h2⟩

set_option maxRecDepth 100000 in
theorem open_version {fuel : Nat} {cs : List Value} {x : DataW H × List MemPlace} (h : DataW.trod enc Tryd.prog W base sp held fuel 56 cs = some x) : ∃ v : VersionV, cs = v.cells ∧ v.OK := by
  cases fuel with
  | zero => simp [DataW.trod] at h
  | succ fuel =>
    obtain ⟨hl, xs, hxs, rfl⟩ := open_struct Tryd.underlying56 h
    rw [cellsVer] at hl
    match cs, hl with
    | [c0, c1, c2, c3, c4, c5, c6, c7], _ =>
      simp only [List.mapM_cons, List.mapM_nil, Option.bind_eq_bind, Option.bind_eq_some_iff, Option.pure_def, Option.some.injEq, cells1s, cells1i, cells1b, cells1is] at hxs
      obtain ⟨y0, e0, _, ⟨y1, e1, _, ⟨y2, e2, _, ⟨y3, e3, _, ⟨y4, e4, _, ⟨y5, e5, _, ⟨y6, e6, _, ⟨y7, e7, _, rfl, rfl⟩, rfl⟩, rfl⟩, rfl⟩, rfl⟩, rfl⟩, rfl⟩, rfl⟩ := hxs
      simp only [List.drop_zero, List.drop_succ_cons, List.take_succ_cons, List.take_zero] at e0 e1 e2 e3 e4 e5 e6 e7
      obtain ⟨s0, h0, w0, rfl⟩ := open_num Tryd.underlying3 e0
      obtain ⟨s1, h1, rfl⟩ := open_bit Tryd.underlying4 e1
      obtain ⟨s2, h2, rfl⟩ := open_bit Tryd.underlying4 e2
      obtain ⟨s3, h3, rfl⟩ := open_str Tryd.underlying9 e3
      obtain ⟨s4, h4, rfl⟩ := open_str Tryd.underlying9 e4
      obtain ⟨s5, h5, w5, rfl⟩ := open_num Tryd.underlying3 e5
      obtain ⟨s6, h6, w6, rfl⟩ := open_num Tryd.underlying3 e6
      obtain ⟨a7, n7, k7, h7⟩ := open_slice_cell Tryd.underlying36 e7
      simp only [List.cons.injEq, and_true] at h0 h1 h2 h3 h4 h5 h6 h7
      subst h0 h1 h2 h3 h4 h5 h6 h7
      exact ⟨⟨s0, s1, s2, s3, s4, s5, s6, a7, n7, k7⟩, rfl, intOK_of_wf w0, intOK_of_wf w6⟩

set_option maxRecDepth 100000 in
theorem open_upload {fuel : Nat} {cs : List Value} {x : DataW H × List MemPlace} (h : DataW.trod enc Tryd.prog W base sp held fuel 59 cs = some x) : ∃ u : UploadV, cs = u.cells ∧ IntOK u.when_ ∧ ∃ y0 y1 y2 y3 y4 y5 : DataW H, x.1 = .agg [y0, y1, .lit (.string u.key.data.toList), y2, y3, y4, y5] := by
  cases fuel with
  | zero => simp [DataW.trod] at h
  | succ fuel =>
    obtain ⟨hl, xs, hxs, rfl⟩ := open_struct Tryd.underlying59 h
    rw [cellsUp] at hl
    match cs, hl with
    | [c0, c1, c2, c3, c4, c5, c6], _ =>
      simp only [List.mapM_cons, List.mapM_nil, Option.bind_eq_bind, Option.bind_eq_some_iff, Option.pure_def, Option.some.injEq, cells1s, cells1i, cells1ps] at hxs
      obtain ⟨y0, e0, _, ⟨y1, e1, _, ⟨y2, e2, _, ⟨y3, e3, _, ⟨y4, e4, _, ⟨y5, e5, _, ⟨y6, e6, _, rfl, rfl⟩, rfl⟩, rfl⟩, rfl⟩, rfl⟩, rfl⟩, rfl⟩ := hxs
      simp only [List.drop_zero, List.drop_succ_cons, List.take_succ_cons, List.take_zero] at e0 e1 e2 e3 e4 e5 e6
      obtain ⟨s0, h0, w0, rfl⟩ := open_num Tryd.underlying3 e0
      obtain ⟨s1, h1, rfl⟩ := open_str Tryd.underlying9 e1
      obtain ⟨s2, h2, rfl⟩ := open_str Tryd.underlying9 e2
      obtain ⟨s3, h3, rfl⟩ := open_str Tryd.underlying9 e3
      obtain ⟨s4, h4, rfl⟩ := open_str Tryd.underlying9 e4
      obtain ⟨s5, h5, w5, rfl⟩ := open_num Tryd.underlying3 e5
      obtain ⟨a6, n6, k6, h6⟩ := open_slice_cell Tryd.underlying45 e6
      simp only [List.cons.injEq, and_true] at h0 h1 h2 h3 h4 h5 h6
      subst h0 h1 h2 h3 h4 h5 h6
      exact ⟨⟨s0, s1, s2, s3, s4, s5, a6, n6, k6⟩, rfl, intOK_of_wf w5, _, _, _, _, _, _, rfl⟩

set_option maxRecDepth 100000 in
theorem open_row' {fuel : Nat} {cs : List Value} {x : DataW H × List MemPlace} (h : DataW.trod enc Tryd.prog W base sp held fuel 61 cs = some x) :
    ∃ r : RowV, cs = r.cells ∧ r.ver.OK ∧ IntOK r.up.when_ ∧ ∃ y z1 z2 z3 : DataW H, x.1 = .agg [.lit (.string r.key.data.toList), y, z1, z2, z3] := by
  cases fuel with
  | zero => simp [DataW.trod] at h
  | succ fuel =>
    obtain ⟨hl, xs, hxs, rfl⟩ := open_struct Tryd.underlying61 h
    rw [cellsRow] at hl
    match cs, hl with
    | [c0, c1, c2, c3, c4, c5, c6, c7, c8, c9, c10, c11, c12, c13, c14, c15, c16, c17], _ =>
      simp only [List.mapM_cons, List.mapM_nil, Option.bind_eq_bind, Option.bind_eq_some_iff, Option.pure_def, Option.some.injEq, cells1s, cells1b, cellsVer, cellsUp] at hxs
      obtain ⟨y0, e0, _, ⟨y1, e1, _, ⟨y2, e2, _, ⟨y3, e3, _, ⟨y4, e4, _, rfl, rfl⟩, rfl⟩, rfl⟩, rfl⟩, rfl⟩ := hxs
      simp only [List.drop_zero, List.drop_succ_cons, List.take_succ_cons, List.take_zero] at e0 e1 e2 e3 e4
      obtain ⟨s0, h0, rfl⟩ := open_str Tryd.underlying9 e0
      obtain ⟨s1, h1, rfl⟩ := open_bit Tryd.underlying4 e1
      obtain ⟨s2, h2, rfl⟩ := open_bit Tryd.underlying4 e2
      obtain ⟨v, h3, hv⟩ := open_version e3
      obtain ⟨u, h4, hu, _⟩ := open_upload e4
      simp only [List.cons.injEq, and_true] at h0 h1 h2
      subst h0 h1 h2
      refine ⟨⟨s0, s1, s2, v, u⟩, ?_, hv, hu, _, _, _, _, rfl⟩
      have e : [Value.string s0, .bool s1, .bool s2, c3, c4, c5, c6, c7, c8, c9, c10, c11, c12, c13, c14, c15, c16, c17] = [Value.string s0, .bool s1, .bool s2] ++ [c3, c4, c5, c6, c7, c8, c9, c10] ++ [c11, c12, c13, c14, c15, c16, c17] := rfl
      rw [e, h3, h4]
      rfl

set_option maxRecDepth 100000 in
/-- a bucket, and the reading of its rules -/
theorem open_bucket {fuel : Nat} {cs : List Value} {x : DataW H × List MemPlace} (h : DataW.trod enc Tryd.prog W base sp held fuel 41 cs = some x) :
    ∃ (n o p : ByteArray) (wh md : Int) (c5 : Value) (f : Nat) (y : DataW H × List MemPlace) (z0 z1 z2 z3 z4 : DataW H), cs = [.string n, .string o, .string p, .int .i64 wh, .int .i64 md, c5] ∧ IntOK md ∧ DataW.trod enc Tryd.prog W base sp held f 26 [c5] = some y ∧ x.1 = .agg [z0, z1, z2, z3, z4, y.1] := by
  cases fuel with
  | zero => simp [DataW.trod] at h
  | succ fuel =>
    obtain ⟨hl, xs, hxs, rfl⟩ := open_struct Tryd.underlying41 h
    rw [cellsBucket] at hl
    match cs, hl with
    | [c0, c1, c2, c3, c4, c5], _ =>
      simp only [List.mapM_cons, List.mapM_nil, Option.bind_eq_bind, Option.bind_eq_some_iff, Option.pure_def, Option.some.injEq, cells1s, cells1i, cells1rs] at hxs
      obtain ⟨y0, e0, _, ⟨y1, e1, _, ⟨y2, e2, _, ⟨y3, e3, _, ⟨y4, e4, _, ⟨y5, e5, _, rfl, rfl⟩, rfl⟩, rfl⟩, rfl⟩, rfl⟩, rfl⟩ := hxs
      simp only [List.drop_zero, List.drop_succ_cons, List.take_succ_cons, List.take_zero] at e0 e1 e2 e3 e4 e5
      obtain ⟨s0, h0, rfl⟩ := open_str Tryd.underlying9 e0
      obtain ⟨s1, h1, rfl⟩ := open_str Tryd.underlying9 e1
      obtain ⟨s2, h2, rfl⟩ := open_str Tryd.underlying9 e2
      obtain ⟨s3, h3, w3, rfl⟩ := open_num Tryd.underlying3 e3
      obtain ⟨s4, h4, w4, rfl⟩ := open_num Tryd.underlying3 e4
      simp only [List.cons.injEq, and_true] at h0 h1 h2 h3 h4
      subst h0 h1 h2 h3 h4
      exact ⟨s0, s1, s2, s3, s4, c5, fuel, y5, _, _, _, _, _, rfl, intOK_of_wf w4, e5, rfl⟩

/-- the rules of a slice that is read -/
theorem open_rules {held : Bool} {fuel : Nat} {cs : List Value} {x : DataW H × List MemPlace} (h : DataW.trod enc Tryd.prog W 0 (fun _ => true) held fuel 26 cs = some x) (hr : ∀ n ∈ DataW.weights Tryd.prog 26 x.1, n ≤ reachBytes) :
    ∃ (ls : List RuleW) (a : Option Addr) (c : Nat) (es sps : List (DataW H)), cs = [.slice a ls.length c] ∧ es.length = ls.length ∧ (x.1 = .slice es sps ∨ (es = [] ∧ x.1 = .nil)) ∧ ls.length ≤ 2199023255488 ∧ RulesIn W (.slice a ls.length c) (ls.map Subtype.val) ∧
      ∀ (i : Nat) (r : RuleW), ls[i]? = some r → ∃ y : DataW H, es[i]? = some (.agg [.lit (.string r.val.id.data.toList), .lit (.string r.val.pre.data.toList), y, .lit (.int .i64 r.val.days), .lit (.int .i64 r.val.nonc), .lit (.int .i64 r.val.abort)]) := by
  obtain ⟨ls, a, c, es, sps, h1, _, h2, h3, h4, h5, h6⟩ := open_list (fun cs d (r : RuleW) => cs = r.val.cells ∧ ∃ y : DataW H, d = .agg [.lit (.string r.val.id.data.toList), .lit (.string r.val.pre.data.toList), y, .lit (.int .i64 r.val.days), .lit (.int .i64 r.val.nonc), .lit (.int .i64 r.val.abort)]) Tryd.underlying26 (of_decide_eq_true (by kernel_rfl))
    (fun _ _ _ h _ => by obtain ⟨r, h1, y, rfl⟩ := open_rule h; exact ⟨r, h1, y, rfl⟩) h hr
  rw [show Tryd.prog.bytesOf 34 = 64 by kernel_rfl] at h2
  unfold reachBytes at h2
  refine ⟨ls, a, c, es, sps, h1, h3, h4, by omega, ⟨a, c, by simp, by simp; omega, fun hp => ?_⟩, fun i r hi => ?_⟩
  · obtain ⟨b, off, rfl, hc⟩ := h6 (by simpa using hp)
    refine ⟨b, off, rfl, fun i r hr j u hu => ?_⟩
    rw [List.getElem?_map, Option.map_eq_some_iff] at hr
    obtain ⟨r', hr', rfl⟩ := hr
    obtain ⟨cs', d, ⟨rfl, _⟩, _, hc⟩ := hc i r' hr'
    rw [cellsRule] at hc
    exact hc j u hu
  · obtain ⟨_, d, ⟨_, y, rfl⟩, hd⟩ := h5 i r hi
    exact ⟨y, hd⟩

theorem open_versions {held : Bool} {fuel : Nat} {cs : List Value} {x : DataW H × List MemPlace} (h : DataW.trod enc Tryd.prog W 0 (fun _ => true) held fuel 35 cs = some x) (hr : ∀ n ∈ DataW.weights Tryd.prog 35 x.1, n ≤ reachBytes) :
    ∃ (vs : List VersionV) (a : Option Addr) (c : Nat), cs = [.slice a vs.length c] ∧ VersionsIn W (.slice a vs.length c) vs ∧ ∀ v ∈ vs, v.OK := by
  obtain ⟨vs, a, c, es, sps, h1, _, h2, h3, h4, h5, h6⟩ := open_list (fun cs _ (v : VersionV) => cs = v.cells ∧ v.OK) Tryd.underlying35 (of_decide_eq_true (by kernel_rfl))
    (fun _ _ _ h _ => open_version h) h hr
  rw [show Tryd.prog.bytesOf 56 = 88 by kernel_rfl] at h2
  unfold reachBytes at h2
  refine ⟨vs, a, c, h1, ⟨a, c, rfl, by omega, fun hp => ?_⟩, fun v hv => ?_⟩
  · obtain ⟨b, off, rfl, hc⟩ := h6 hp
    refine ⟨b, off, rfl, fun i r hr j u hu => ?_⟩
    obtain ⟨cs', d, ⟨rfl, _⟩, _, hc⟩ := hc i r hr
    rw [cellsVer] at hc
    exact hc j u hu
  · obtain ⟨i, hi⟩ := List.getElem?_of_mem hv
    obtain ⟨_, _, ⟨_, h⟩, _⟩ := h5 i v hi
    exact h

theorem open_uploads {held : Bool} {fuel : Nat} {cs : List Value} {x : DataW H × List MemPlace} (h : DataW.trod enc Tryd.prog W 0 (fun _ => true) held fuel 43 cs = some x) (hr : ∀ n ∈ DataW.weights Tryd.prog 43 x.1, n ≤ reachBytes) :
    ∃ (us : List UploadV) (a : Option Addr) (c : Nat) (es sps : List (DataW H)), cs = [.slice a us.length c] ∧ es.length = us.length ∧ (x.1 = .slice es sps ∨ (es = [] ∧ x.1 = .nil)) ∧ UploadsIn W (.slice a us.length c) us ∧ (∀ u ∈ us, IntOK u.when_) ∧
      ∀ (i : Nat) (r : UploadV), us[i]? = some r → ∃ y0 y1 y2 y3 y4 y5 : DataW H, es[i]? = some (.agg [y0, y1, .lit (.string r.key.data.toList), y2, y3, y4, y5]) := by
  obtain ⟨us, a, c, es, sps, h1, _, h2, h3, h4, h5, h6⟩ := open_list (fun cs d (u : UploadV) => cs = u.cells ∧ IntOK u.when_ ∧ ∃ y0 y1 y2 y3 y4 y5 : DataW H, d = .agg [y0, y1, .lit (.string u.key.data.toList), y2, y3, y4, y5]) Tryd.underlying43 (of_decide_eq_true (by kernel_rfl))
    (fun _ _ _ h _ => open_upload h) h hr
  rw [show Tryd.prog.bytesOf 59 = 104 by kernel_rfl] at h2
  unfold reachBytes at h2
  refine ⟨us, a, c, es, sps, h1, h3, h4, ⟨a, c, rfl, by omega, fun hp => ?_⟩, fun v hv => ?_, fun i r hi => ?_⟩
  · obtain ⟨b, off, rfl, hc⟩ := h6 hp
    refine ⟨b, off, rfl, fun i r hr j u hu => ?_⟩
    obtain ⟨cs', d, ⟨rfl, _⟩, _, hc⟩ := hc i r hr
    rw [cellsUp] at hc
    exact hc j u hu
  · obtain ⟨i, hi⟩ := List.getElem?_of_mem hv
    obtain ⟨_, _, ⟨_, h, _⟩, _⟩ := h5 i v hi
    exact h
  · obtain ⟨_, d, ⟨_, _, y0, y1, y2, y3, y4, y5, rfl⟩, hd⟩ := h5 i r hi
    exact ⟨_, _, _, _, _, _, hd⟩

theorem open_rows {held : Bool} {fuel : Nat} {cs : List Value} {x : DataW H × List MemPlace} (h : DataW.trod enc Tryd.prog W 0 (fun _ => true) held fuel 42 cs = some x) (hr : ∀ n ∈ DataW.weights Tryd.prog 42 x.1, n ≤ reachBytes) :
    ∃ (rs : List RowV) (a : Option Addr) (c : Nat) (es sps : List (DataW H)), cs = [.slice a rs.length c] ∧ es.length = rs.length ∧ (x.1 = .slice es sps ∨ (es = [] ∧ x.1 = .nil)) ∧ RowsIn W (.slice a rs.length c) rs ∧ (∀ r ∈ rs, r.ver.OK) ∧
      ∀ (i : Nat) (r : RowV), rs[i]? = some r → ∃ y z1 z2 z3 : DataW H, es[i]? = some (.agg [.lit (.string r.key.data.toList), y, z1, z2, z3]) := by
  obtain ⟨rs, a, c, es, sps, h1, h0, h2, h3, h4, h5, h6⟩ := open_list (fun cs d (r : RowV) => cs = r.cells ∧ r.ver.OK ∧ ∃ y z1 z2 z3 : DataW H, d = .agg [.lit (.string r.key.data.toList), y, z1, z2, z3]) Tryd.underlying42 (of_decide_eq_true (by kernel_rfl))
    (fun _ _ _ h _ => by obtain ⟨r, h1, h2, _, h3⟩ := open_row' h; exact ⟨r, h1, h2, h3⟩) h hr
  rw [show Tryd.prog.bytesOf 61 = 216 by kernel_rfl] at h2
  unfold reachBytes at h2
  refine ⟨rs, a, c, es, sps, h1, h3, h4, ⟨a, c, rfl, h0, by omega, fun hp => ?_⟩, fun v hv => ?_, fun i r hi => ?_⟩
  · obtain ⟨b, off, rfl, hc⟩ := h6 hp
    refine ⟨b, off, rfl, fun i r hr j u hu => ?_⟩
    obtain ⟨cs', d, ⟨rfl, _⟩, _, hc⟩ := hc i r hr
    rw [cellsRow] at hc
    exact hc j u hu
  · obtain ⟨i, hi⟩ := List.getElem?_of_mem hv
    obtain ⟨_, _, ⟨_, h, _⟩, _⟩ := h5 i v hi
    exact h
  · obtain ⟨_, d, ⟨_, _, y, z1, z2, z3, rfl⟩, hd⟩ := h5 i r hi
    exact ⟨_, _, _, _, hd⟩
end

end Go.Proofs.YtnnfcbebjbfkoaaDoor
