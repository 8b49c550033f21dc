/-
  RULES, VERSIONS, UPLOADS, ROWS that are read as data.
-/
import Derived.Test.YtnnfcbebjbfkoaaDoorOpenList
import Derived.Test.YtnnfcbebjbfkoaaDoorCyNext
namespace Go.Proofs.YtnnfcbebjbfkoaaDoor
open Go.RowKit

theorem intOK_of_wf {n : Int} (h : (Lit.int .i64 n).wf = true) : IntOK n := by
  unfold IntOK
  simpa [Lit.wf, IntKind.min, IntKind.max, IntKind.signed, IntKind.bits] using h

section
variable {H : Type} {enc : TypeId × Value → H} {W : World} {held : Bool} {base : Nat} {sp : Nat → Bool}

theorem cells1s : Tryd.prog.cellsOf 9 = 1 := by kernel_rfl
theorem cells1i : Tryd.prog.cellsOf 3 = 1 := by kernel_rfl
theorem cells1b : Tryd.prog.cellsOf 4 = 1 := by kernel_rfl
theorem cells1is : Tryd.prog.cellsOf 36 = 1 := by kernel_rfl
theorem cells1ps : Tryd.prog.cellsOf 45 = 1 := by kernel_rfl
theorem cells1rs : Tryd.prog.cellsOf 26 = 1 := by kernel_rfl
theorem cellsRule : Tryd.prog.cellsOf 34 = 6 := by kernel_rfl
theorem cellsVer : Tryd.prog.cellsOf 56 = 8 := by kernel_rfl
theorem cellsUp : Tryd.prog.cellsOf 59 = 7 := by kernel_rfl
theorem cellsRow : Tryd.prog.cellsOf 61 = 18 := by kernel_rfl
theorem cellsBucket : Tryd.prog.cellsOf 41 = 6 := by kernel_rfl

set_option maxRecDepth 100000 in
theorem open_rule {fuel : Nat} {cs : List Value} {x : DataW H × List MemPlace} (h : DataW.trod enc Tryd.prog W base sp held fuel 34 cs = some x) :
    ∃ r : RuleW, cs = r.val.cells ∧ ∃ y : DataW H, x = (.agg [.lit (.string r.val.id.data.toList), .lit (.string r.val.pre.data.toList), y, .lit (.int .i64 r.val.days), .lit (.int .i64 r.val.nonc), .lit (.int .i64 r.val.abort)], []) := by
  cases fuel with
  | zero => simp [DataW.trod] at h
  | succ fuel =>
    obtain ⟨hl, xs, hxs, rfl⟩ := open_struct Tryd.underlying34 h
    rw [cellsRule] at hl
    match cs, hl with
    | [c0, c1, c2, c3, c4, c5], _ =>
      simp only [List.mapM_cons, List.mapM_nil, Option.bind_eq_bind, Option.bind_eq_some_iff, Option.pure_def, Option.some.injEq, cells1s, cells1i, cells1b] at hxs
      obtain ⟨y0, e0, _, ⟨y1, e1, _, ⟨y2, e2, _, ⟨y3, e3, _, ⟨y4, e4, _, ⟨y5, e5, _, rfl, rfl⟩, rfl⟩, rfl⟩, rfl⟩, rfl⟩, rfl⟩ := hxs
      simp only [List.drop_zero, List.drop_succ_cons, List.take_succ_cons, List.take_zero] at e0 e1 e2 e3 e4 e5
      obtain ⟨s0, h0, rfl⟩ := open_str Tryd.underlying9 e0
      obtain ⟨s1, h1, rfl⟩ := open_str Tryd.underlying9 e1
      obtain ⟨s2, h2, rfl⟩ := open_bit Tryd.underlying4 e2
      obtain ⟨s3, h3, w3, rfl⟩ := open_num Tryd.underlying3 e3
      obtain ⟨s4, h4, w4, rfl⟩ := open_num Tryd.underlying3 e4
      obtain ⟨s5, h5, w5, rfl⟩ := open_num Tryd.underlying3 e5
      simp only [List.cons.injEq, and_true] at h0 h1 h2 h3 h4 h5
      subst h0 h1 h2 h3 h4 h5
      exact ⟨⟨⟨s0, s1, s2, s3, s4, s5⟩, intOK_of_wf w3, intOK_of_wf w4, intOK_of_wf w5⟩, rfl, _, rfl⟩

/-- a slice's reading: its one cell -/
theorem open_slice_cell {t e : TypeId} {fuel : Nat} {cs : List Value} {x : DataW H × List MemPlace} (hu : Tryd.prog.underlying t = some (.slice e)) (h : DataW.trod enc Tryd.prog W base sp held fuel t cs = some x) : ∃ a n c, cs = [.slice a n c] := by
  cases fuel with
  | zero => simp [DataW.trod] at h
  | succ fuel =>
    rcases open_sl hu h with ⟨h2, _⟩ | ⟨a, len, cap, _, _, h2, _⟩
    · exact ⟨_, _, _, h2⟩
    · exact ⟨_, _, _, h2⟩

set_option maxRecDepth 100000 in
theorem open_version {fuel : Nat} {cs : List Value} {x : DataW H × List MemPlace} (h : DataW.trod enc Tryd.prog W base sp held fuel 56 cs = some x) : ∃ v : VersionV, cs = v.cells ∧ v.OK := by
  cases fuel with
  | zero => simp [DataW.trod] at h
  | succ fuel =>
    obtain ⟨hl, xs, hxs, rfl⟩ := open_struct Tryd.underlying56 h
    rw [cellsVer] at hl
    match cs, hl with
    | [c0, c1, c2, c3, c4, c5, c6, c7], _ =>
      simp only [List.mapM_cons, List.mapM_nil, Option.bind_eq_bind, Option.bind_eq_some_iff, Option.pure_def, Option.some.injEq, cells1s, cells1i, cells1b, cells1is] at hxs
      obtain ⟨y0, e0, _, ⟨y1, e1, _, ⟨y2, e2, _, ⟨y3, e3, _, ⟨y4, e4, _, ⟨y5, e5, _, ⟨y6, e6, _, ⟨y7, e7, _, rfl, rfl⟩, rfl⟩, rfl⟩, rfl⟩, rfl⟩, rfl⟩, rfl⟩, rfl⟩ := hxs
      simp only [List.drop_zero, List.drop_succ_cons, List.take_succ_cons, List.take_zero] at e0 e1 e2 e3 e4 e5 e6 e7
      obtain ⟨s0, h0, w0, rfl⟩ := open_num Tryd.underlying3 e0
      obtain ⟨s1, h1, rfl⟩ := open_bit Tryd.underlying4 e1
      obtain ⟨s2, h2, rfl⟩ := open_bit Tryd.underlying4 e2
      obtain ⟨s3, h3, rfl⟩ := open_str Tryd.underlying9 e3
      obtain ⟨s4, h4, rfl⟩ := open_str Tryd.underlying9 e4
      obtain ⟨s5, h5, w5, rfl⟩ := open_num Tryd.underlying3 e5
      obtain ⟨s6, h6, w6, rfl⟩ := open_num Tryd.underlying3 e6
      obtain ⟨a7, n7, k7, h7⟩ := open_slice_cell Tryd.underlying36 e7
      simp only [List.cons.injEq, and_true] at h0 h1 h2 h3 h4 h5 h6 h7
      subst h0 h1 h2 h3 h4 h5 h6 h7
      exact ⟨⟨s0, s1, s2, s3, s4, s5, s6, a7, n7, k7⟩, rfl, intOK_of_wf w0, intOK_of_wf w6⟩

set_option maxRecDepth 100000 in
theorem open_upload {fuel : Nat} {cs : List Value} {x : DataW H × List MemPlace} (h : DataW.trod enc Tryd.prog W base sp held fuel 59 cs = some x) : ∃ u : UploadV, cs = u.cells ∧ IntOK u.when_ := by
  cases fuel with
  | zero => simp [DataW.trod] at h
  | succ fuel =>
    obtain ⟨hl, xs, hxs, rfl⟩ := open_struct Tryd.underlying59 h
    rw [cellsUp] at hl
    match cs, hl with
    | [c0, c1, c2, c3, c4, c5, c6], _ =>
      simp only [List.mapM_cons, List.mapM_nil, Option.bind_eq_bind, Option.bind_eq_some_iff, Option.pure_def, Option.some.injEq, cells1s, cells1i, cells1b, cells1ps] at hxs
      obtain ⟨y0, e0, _, ⟨y1, e1, _, ⟨y2, e2, _, ⟨y3, e3, _, ⟨y4, e4, _, ⟨y5, e5, _, ⟨y6, e6, _, rfl, rfl⟩, rfl⟩, rfl⟩, rfl⟩, rfl⟩, rfl⟩, rfl⟩ := hxs
      simp only [List.drop_zero, List.drop_succ_cons, List.take_succ_cons, List.take_zero] at e0 e1 e2 e3 e4 e5 e6
      obtain ⟨s0, h0, w0, rfl⟩ := open_num Tryd.underlying3 e0
      obtain ⟨s1, h1, rfl⟩ := open_str Tryd.underlying9 e1
      obtain ⟨s2, h2, rfl⟩ := open_str Tryd.underlying9 e2
      obtain ⟨s3, h3, rfl⟩ := open_str Tryd.underlying9 e3
      obtain ⟨s4, h4, rfl⟩ := open_str Tryd.underlying9 e4
      obtain ⟨s5, h5, w5, rfl⟩ := open_num Tryd.underlying3 e5
      obtain ⟨a6, n6, k6, h6⟩ := open_slice_cell Tryd.underlying45 e6
      simp only [List.cons.injEq, and_true] at h0 h1 h2 h3 h4 h5 h6
      subst h0 h1 h2 h3 h4 h5 h6
      exact ⟨⟨s0, s1, s2, s3, s4, s5, a6, n6, k6⟩, rfl, intOK_of_wf w5⟩

set_option maxRecDepth 100000 in
theorem open_row' {fuel : Nat} {cs : List Value} {x : DataW H × List MemPlace} (h : DataW.trod enc Tryd.prog W base sp held fuel 61 cs = some x) :
    ∃ r : RowV, cs = r.cells ∧ r.ver.OK ∧ IntOK r.up.when_ ∧ ∃ y z1 z2 z3 : DataW H, x.1 = .agg [.lit (.string r.key.data.toList), y, z1, z2, z3] := by
  cases fuel with
  | zero => simp [DataW.trod] at h
  | succ fuel =>
    obtain ⟨hl, xs, hxs, rfl⟩ := open_struct Tryd.underlying61 h
    rw [cellsRow] at hl
    match cs, hl with
    | [c0, c1, c2, c3, c4, c5, c6, c7, c8, c9, c10, c11, c12, c13, c14, c15, c16, c17], _ =>
      simp only [List.mapM_cons, List.mapM_nil, Option.bind_eq_bind, Option.bind_eq_some_iff, Option.pure_def, Option.some.injEq, cells1s, cells1b, cellsVer, cellsUp] at hxs
      obtain ⟨y0, e0, _, ⟨y1, e1, _, ⟨y2, e2, _, ⟨y3, e3, _, ⟨y4, e4, _, rfl, rfl⟩, rfl⟩, rfl⟩, rfl⟩, rfl⟩ := hxs
      simp only [List.drop_zero, List.drop_succ_cons, List.take_succ_cons, List.take_zero] at e0 e1 e2 e3 e4
      obtain ⟨s0, h0, rfl⟩ := open_str Tryd.underlying9 e0
      obtain ⟨s1, h1, rfl⟩ := open_bit Tryd.underlying4 e1
      obtain ⟨s2, h2, rfl⟩ := open_bit Tryd.underlying4 e2
      obtain ⟨v, h3, hv⟩ := open_version e3
      obtain ⟨u, h4, hu⟩ := open_upload e4
      simp only [List.cons.injEq, and_true] at h0 h1 h2
      subst h0 h1 h2
      refine ⟨⟨s0, s1, s2, v, u⟩, ?_, hv, hu, _, _, _, _, rfl⟩
      have e : [Value.string s0, .bool s1, .bool s2, c3, c4, c5, c6, c7, c8, c9, c10, c11, c12, c13, c14, c15, c16, c17] = [Value.string s0, .bool s1, .bool s2] ++ [c3, c4, c5, c6, c7, c8, c9, c10] ++ [c11, c12, c13, c14, c15, c16, c17] := rfl
      rw [e, h3, h4]
      rfl
end

end Go.Proofs.YtnnfcbebjbfkoaaDoor
