/-
  WIRE: a first line.
-/
import Derived.Test.YtdilmefeofdkmaaGreatDoorWiComplete
namespace Go.Proofs.YtdilmefeofdkmaaGreatDoor
open Go.RowKit

theorem prefix_take (s p : List UInt8) : Lib.hasPrefix s p = (s.take p.length == p) := by
  unfold Lib.hasPrefix
  rw [Bool.eq_iff_iff, List.isPrefixOf_iff_prefix, List.prefix_iff_eq_take]
  simp only [beq_iff_eq]
  exact ⟨fun h => h.symm, fun h => h.symm⟩
theorem str_get (l : List UInt8) (i : Nat) (h : i < (⟨l.toArray⟩ : ByteArray).size) : (⟨l.toArray⟩ : ByteArray)[i]'h = l.getD i 0 := by
  have h2 : i < l.length := by simpa [ByteArray.size] using h
  simp [List.getD, List.getElem?_eq_getElem h2]
  rfl

theorem RdrAt.later {w w' : World} {rd : Nat} {ms : Own} {s : RS} {out : List ReqV} (h : RdrAt w rd ms s out) (hb : Below w.heap.size w w') : RdrAt w' rd ms s out := by
  obtain ⟨vo, vl, vf, vb, hI⟩ := h
  exact ⟨vo, vl, vf, vb, hI.later hb⟩
theorem request_eq (s : RS) {line M R T V : List UInt8} {o1 ok : Bool} (h1 : cutAt 32 line = (M, R, o1)) (h2 : cutAt 32 R = (T, V, ok)) :
    s.request line = { (if (!ok || !allB M capB || !allB T seenB || !formL V) = true then s.fail 60 else if (!methods.contains M) = true then s.fail 68 else if (V != http10 && V != http11) = true then s.fail 70 else s) with meth := M, target := T, minor := if (V == http11) = true then 1 else s.minor } := by
  unfold RS.request
  simp only [h1, h2]
  split
  · rfl
  · split
    · rfl
    · split <;> rfl
def mCells : Array Value := #[.string ⟨#[71, 69, 84]⟩, .string ⟨#[72, 69, 65, 68]⟩, .string ⟨#[80, 85, 84]⟩, .string ⟨#[80, 79, 83, 84]⟩, .string ⟨#[68, 69, 76, 69, 84, 69]⟩]
theorem contains_any (M : List UInt8) (w : World) :
    Calls Tryz.prog 65 #[.slice (some ⟨w.heap.size, 0, none⟩) 5 5, .string ⟨M.toArray⟩] (w.alloc (.cells mCells 9)) fun e w' => e = .returned (.bool (methods.contains M)) ∧ w' = w.alloc (.cells mCells 9) := by
  have := Tryz.slices_Contains_string w.heap.size 0 5 5 (methods.map fun m => ⟨m.toArray⟩) ⟨M.toArray⟩ (w.alloc (.cells mCells 9)) (by decide) (by decide) (fun j hj => by
    have hj5 : j < 5 := hj
    rw [cell_of_heap (heap_alloc_new _ _), Nat.zero_add]
    rcases j with _ | _ | _ | _ | _ | j
    · rfl
    · rfl
    · rfl
    · rfl
    · rfl
    · omega)
  rwa [show Lib.containsS ((methods.map fun m => (⟨m.toArray⟩ : ByteArray)).take 5) ⟨M.toArray⟩ = methods.contains M from by
    rw [List.take_of_length_le (by decide)]
    rw [Bool.eq_iff_iff, Lib.containsS_iff, List.mem_map, List.contains_iff_mem]
    constructor
    · rintro ⟨m, hm, he⟩
      have := congrArg (fun x : ByteArray => x.data.toList) he
      simp only at this
      rw [← this]; exact hm
    · intro hm
      exact ⟨M, hm, rfl⟩] at this

set_option maxHeartbeats 4000000 in
set_option maxRecDepth 100000 in
theorem request_any {w : World} {rd : Nat} {ms : Own} {s : RS} {out : List ReqV} (h : RdrAt w rd ms s out) (line : List UInt8) (hl : line.length ≤ 140737488351232) :
    Calls Tryz.prog 77 #[.pointer (some ⟨rd, 0, none⟩), .string ⟨line.toArray⟩] w fun x w' => x = .returned (.tuple #[]) ∧ RdPost w rd ms (s.request line) out w' := by
  have hc1 := cutAt_len 32 line
  have hc2 := cutAt_len 32 (cutAt 32 line).2.1
  have HC1 : Hid (∀ W, Calls Tryz.prog 95 #[.string ⟨line.toArray⟩, .string ⟨#[32]⟩] W fun e w' => e = .returned (.tuple #[.string ⟨(cutAt 32 line).1.toArray⟩, .string ⟨(cutAt 32 line).2.1.toArray⟩, .bool (cutAt 32 line).2.2]) ∧ Below W.heap.size W w') := fun W => cutL_any line 32 W hl
  have HC2 : Hid (∀ W, Calls Tryz.prog 95 #[.string ⟨(cutAt 32 line).2.1.toArray⟩, .string ⟨#[32]⟩] W fun e w' => e = .returned (.tuple #[.string ⟨(cutAt 32 (cutAt 32 line).2.1).1.toArray⟩, .string ⟨(cutAt 32 (cutAt 32 line).2.1).2.1.toArray⟩, .bool (cutAt 32 (cutAt 32 line).2.1).2.2]) ∧ Below W.heap.size W w') := fun W => cutL_any _ 32 W (by omega)
  generalize hc : cutAt 32 line = c at *
  generalize hd : cutAt 32 c.2.1 = d at *
  obtain ⟨M, R, o1⟩ := c
  obtain ⟨T, V, ok⟩ := d
  simp only at hc1 hc2 HC1 HC2 hd
  have HREQ := Lib.hid (request_eq s hc hd)
  have HM := Lib.hid (fun W => all_any M (by omega) capital_test W)
  have HT := Lib.hid (fun W => all_any T (by omega) seen_test W)
  have HA := Lib.hid h
  have hV : V.length ≤ 140737488351232 := by omega
  clear h hc1 hc2
  go_enter Tryz.func77, Tryz.ntmps77
  go_wp2_with fail
  refine (HC1.out _).mono ?_
  rintro e w1 ⟨rfl, hb1⟩
  go_wp2_with fail
  refine (HC2.out _).mono ?_
  rintro e w2 ⟨rfl, hb2⟩
  have HB := Lib.hid (hb1.trans (hb2.mono hb1.size))
  clear hb1 hb2 HC1 HC2
  go_upto_region 4 with (fail)
  go_cut [12] (fun sx wx => sx = .bool (formL V) ∧ wx = w2)
  case first =>
    by_cases h8 : V.length = 8
    · have h8' : ((V.length : Int) == 8) = true := by rw [beq_iff_eq]; omega
      have hsz : (⟨V.toArray⟩ : ByteArray).size = 8 := by simpa [ByteArray.size] using h8
      have HPX : Hid (∀ W, Calls Tryz.prog 98 #[.string ⟨V.toArray⟩, .string ⟨#[72, 84, 84, 80, 47]⟩] W fun e w' => e = .returned (.bool (V.take 5 == http)) ∧ w' = W) := fun W => by
        have := Tryz.strings_HasPrefix ⟨V.toArray⟩ ⟨#[72, 84, 84, 80, 47]⟩ W
        rwa [show Lib.hasPrefix (⟨V.toArray⟩ : ByteArray).data.toList (⟨#[72, 84, 84, 80, 47]⟩ : ByteArray).data.toList = (V.take 5 == http) from prefix_take V http] at this
      have E5 : ∀ (hh : 5 < (⟨V.toArray⟩ : ByteArray).size), digB ((⟨V.toArray⟩ : ByteArray)[5]'hh) = digB (V.getD 5 0) := fun hh => by rw [str_get V 5 hh]
      have E7 : ∀ (hh : 7 < (⟨V.toArray⟩ : ByteArray).size), digB ((⟨V.toArray⟩ : ByteArray)[7]'hh) = digB (V.getD 7 0) := fun hh => by rw [str_get V 7 hh]
      have E6 : ∀ (hh : 6 < (⟨V.toArray⟩ : ByteArray).size), ((((⟨V.toArray⟩ : ByteArray)[6]'hh).toNat : Int) == 46) = (V.getD 6 0 == 46) := fun hh => by rw [← str_get V 6 hh, u8_eq]; rfl
      have FV : Hid (formL V = ((V.take 5 == http) && digB (V.getD 5 0) && V.getD 6 0 == 46 && digB (V.getD 7 0))) := by show _ = _; unfold formL; rw [h8]; simp
      generalize (V.take 5 == http) = hp at *
      generalize digB (V.getD 5 0) = d5 at *
      generalize (V.getD 6 0 == 46) = x6 at *
      generalize digB (V.getD 7 0) = d7 at *
      clear h8
      cases hp <;> cases d5 <;> cases x6 <;> cases d7
      all_goals
        go_wp2_with (first
          | (go_at_call 98; refine (HPX.out _).mono ?_; rintro e w' ⟨rfl, rfl⟩)
          | (go_at_call 64; refine (digit_any _ _).mono ?_; rintro e w' ⟨rfl, rfl⟩))
        go_meet
        case rel => exact ⟨by rw [FV.out]; rfl, rfl⟩
    · have h8' : ((V.length : Int) == 8) = false := by rw [beq_eq_false_iff_ne]; omega
      have FV : Hid (formL V = false) := by show _ = _; unfold formL; simp [h8]
      clear h8
      go_wp2_with fail
      go_meet
      case rel => exact ⟨by rw [FV.out], rfl⟩
  case rest =>
  obtain ⟨rfl, rfl⟩ := hcut
  obtain ⟨wA, rfl⟩ : ∃ wx : World, wx = wc := ⟨_, rfl⟩
  generalize formL V = fm at *
  go_upto_region 5 with (fail)
  go_cut [47] (fun sx wx => sx = .bool (!ok || !allB M capB || !allB T seenB || !fm) ∧ Below wA.heap.size wA wx)
  case first =>
    generalize allB M capB = am at *
    generalize allB T seenB = tm at *
    cases ok with
    | false =>
      go_wp2_with fail
      go_meet
      case rel => exact ⟨rfl, Below.refl _ _⟩
    | true =>
      go_wp2_with fail
      refine (HM.out _).mono ?_
      rintro e w3 ⟨rfl, hm⟩
      cases am with
      | false =>
        go_wp2_with fail
        go_meet
        case rel => exact ⟨rfl, hm⟩
      | true =>
        go_wp2_with fail
        refine (HT.out _).mono ?_
        rintro e w4 ⟨rfl, ht⟩
        cases tm <;> cases fm
        all_goals
          go_wp2_with fail
          go_meet
          case rel => exact ⟨rfl, hm.trans (ht.mono hm.size)⟩
  case rest =>
  obtain ⟨rfl, hb5⟩ := hcut
  obtain ⟨wB, rfl⟩ : ∃ wx : World, wx = wc := ⟨_, rfl⟩
  have HB2 := Lib.hid (HB.out.trans (hb5.mono HB.out.size))
  have H0 := Lib.hid (HA.out.later HB2.out)
  clear hb5 HB HA HM HT
  generalize (!ok || !allB M capB || !allB T seenB || !fm) = bad at *
  cases bad with
  | true =>
    have HR : Hid (s.request line = { s.fail 60 with meth := M, target := T, minor := if (V == http11) = true then 1 else s.minor }) := by show _ = _; rw [HREQ.out, if_pos (by rfl)]
    clear HREQ
    go_wp2_with fail
    refine (fail_any H0.out 60).mono ?_
    rintro e W1 ⟨rfl, ms1, h1, m1⟩
    replace m1 := (Mv.of_below HB2.out).trans m1
    obtain ⟨vo, vl, vf, vb, hI⟩ := h1
    have q8 : W1.cell? ⟨rd, 8, none⟩ = some (.string ⟨s.meth.toArray⟩) := cell_of_heap hI.box
    have q9 : W1.cell? ⟨rd, 9, none⟩ = some (.string ⟨s.target.toArray⟩) := cell_of_heap hI.box
    have q10 : W1.cell? ⟨rd, 10, none⟩ = some (.int .i64 s.minor) := cell_of_heap hI.box
    have f8 : W1.frozen? ⟨rd, 8, none⟩ = false := free_of_heap hI.box
    have f9 : W1.frozen? ⟨rd, 9, none⟩ = false := free_of_heap hI.box
    have f10 : W1.frozen? ⟨rd, 10, none⟩ = false := free_of_heap hI.box
    have I1 := Lib.hid hI
    have M1 := Lib.hid m1
    clear hI m1
    by_cases hv : V = http11
    · have hv1 : (V == http11) = true := by rw [hv]; decide
      have hv2 : (V == [72, 84, 84, 80, 47, 49, 46, 49]) = true := hv1
      have hv3 : V = [72, 84, 84, 80, 47, 49, 46, 49] := hv
      clear hv
      go_wp2_with fail
      go_end0
      have k1 := I1.out.set 8 (.string ⟨M.toArray⟩) { s.fail 60 with meth := M } rfl rfl rfl rfl
      have k2 := k1.set 9 (.string ⟨T.toArray⟩) { s.fail 60 with meth := M, target := T } rfl rfl rfl rfl
      have k3 := k2.set 10 (.int .i64 1) { s.fail 60 with meth := M, target := T, minor := 1 } rfl rfl rfl rfl
      refine ⟨rfl, ms1, ⟨vo, vl, vf, vb, ?_⟩, ((M1.out.trans (I1.out.mvSet 8 _)).trans (k1.mvSet 9 _)).trans (k2.mvSet 10 _)⟩
      rw [HR.out, if_pos hv1]
      exact k3
    · have hv1 : (V == http11) = false := by rw [beq_eq_false_iff_ne]; exact hv
      have hv2 : (V == [72, 84, 84, 80, 47, 49, 46, 49]) = false := hv1
      have hv3 : ¬ V = [72, 84, 84, 80, 47, 49, 46, 49] := hv
      go_wp2_with fail
      go_end0
      have k1 := I1.out.set 8 (.string ⟨M.toArray⟩) { s.fail 60 with meth := M } rfl rfl rfl rfl
      have k2 := k1.set 9 (.string ⟨T.toArray⟩) { s.fail 60 with meth := M, target := T } rfl rfl rfl rfl
      refine ⟨rfl, ms1, ⟨vo, vl, vf, vb, ?_⟩, (M1.out.trans (I1.out.mvSet 8 _)).trans (k1.mvSet 9 _)⟩
      rw [HR.out, if_neg (by rw [hv1]; decide)]
      exact k2
  | false =>
    rw [if_neg (by decide)] at HREQ
    have HCN := Lib.hid (fun W => contains_any M W)
    generalize methods.contains M = mt at *
    cases mt with
    | false =>
      have HR : Hid (s.request line = { s.fail 68 with meth := M, target := T, minor := if (V == http11) = true then 1 else s.minor }) := by show _ = _; rw [HREQ.out, if_pos (by rfl)]
      clear HREQ
      go_wp2_with fail
      refine (HCN.out wB).mono ?_
      rintro e w6 ⟨rfl, rfl⟩
      have HB3 := Lib.hid (HB2.out.trans ((below_alloc (Below.refl wB.heap.size wB) (Nat.le_refl _) (.cells mCells 9)).mono HB2.out.size))
      have H1 := Lib.hid (H0.out.later (below_alloc (Below.refl wB.heap.size wB) (Nat.le_refl _) (.cells mCells 9)))
      clear HB2 H0 HCN
      generalize wB.alloc (.cells mCells 9) = wC at *
      go_wp2_with fail
      refine (fail_any H1.out 68).mono ?_
      rintro e W1 ⟨rfl, ms1, h1, m1⟩
      replace m1 := (Mv.of_below HB3.out).trans m1
      obtain ⟨vo, vl, vf, vb, hI⟩ := h1
      have q8 : W1.cell? ⟨rd, 8, none⟩ = some (.string ⟨s.meth.toArray⟩) := cell_of_heap hI.box
      have q9 : W1.cell? ⟨rd, 9, none⟩ = some (.string ⟨s.target.toArray⟩) := cell_of_heap hI.box
      have q10 : W1.cell? ⟨rd, 10, none⟩ = some (.int .i64 s.minor) := cell_of_heap hI.box
      have f8 : W1.frozen? ⟨rd, 8, none⟩ = false := free_of_heap hI.box
      have f9 : W1.frozen? ⟨rd, 9, none⟩ = false := free_of_heap hI.box
      have f10 : W1.frozen? ⟨rd, 10, none⟩ = false := free_of_heap hI.box
      have I1 := Lib.hid hI
      have M1 := Lib.hid m1
      clear hI m1
      by_cases hv : V = http11
      · have hv1 : (V == http11) = true := by rw [hv]; decide
        have hv2 : (V == [72, 84, 84, 80, 47, 49, 46, 49]) = true := hv1
        have hv3 : V = [72, 84, 84, 80, 47, 49, 46, 49] := hv
        clear hv
        go_wp2_with fail
        go_end0
        have k1 := I1.out.set 8 (.string ⟨M.toArray⟩) { s.fail 68 with meth := M } rfl rfl rfl rfl
        have k2 := k1.set 9 (.string ⟨T.toArray⟩) { s.fail 68 with meth := M, target := T } rfl rfl rfl rfl
        have k3 := k2.set 10 (.int .i64 1) { s.fail 68 with meth := M, target := T, minor := 1 } rfl rfl rfl rfl
        refine ⟨rfl, ms1, ⟨vo, vl, vf, vb, ?_⟩, ((M1.out.trans (I1.out.mvSet 8 _)).trans (k1.mvSet 9 _)).trans (k2.mvSet 10 _)⟩
        rw [HR.out, if_pos hv1]
        exact k3
      · have hv1 : (V == http11) = false := by rw [beq_eq_false_iff_ne]; exact hv
        have hv2 : (V == [72, 84, 84, 80, 47, 49, 46, 49]) = false := hv1
        have hv3 : ¬ V = [72, 84, 84, 80, 47, 49, 46, 49] := hv
        go_wp2_with fail
        go_end0
        have k1 := I1.out.set 8 (.string ⟨M.toArray⟩) { s.fail 68 with meth := M } rfl rfl rfl rfl
        have k2 := k1.set 9 (.string ⟨T.toArray⟩) { s.fail 68 with meth := M, target := T } rfl rfl rfl rfl
        refine ⟨rfl, ms1, ⟨vo, vl, vf, vb, ?_⟩, (M1.out.trans (I1.out.mvSet 8 _)).trans (k1.mvSet 9 _)⟩
        rw [HR.out, if_neg (by rw [hv1]; decide)]
        exact k2
    | true =>
      rw [if_neg (by decide)] at HREQ
      go_wp2_with fail
      refine (HCN.out wB).mono ?_
      rintro e w6 ⟨rfl, rfl⟩
      have HB3 := Lib.hid (HB2.out.trans ((below_alloc (Below.refl wB.heap.size wB) (Nat.le_refl _) (.cells mCells 9)).mono HB2.out.size))
      have H1 := Lib.hid (H0.out.later (below_alloc (Below.refl wB.heap.size wB) (Nat.le_refl _) (.cells mCells 9)))
      clear HB2 H0 HCN
      generalize wB.alloc (.cells mCells 9) = wC at *
      obtain ⟨W1, rfl⟩ : ∃ x : World, x = wC := ⟨_, rfl⟩
      have h1 := H1.out
      have m1 := Mv.of_below (m := ms) HB3.out
      obtain ⟨ms1, rfl⟩ : ∃ x, x = ms := ⟨_, rfl⟩
      clear H1 HB3
      by_cases hv0 : V = http10
      · have hv : ¬ V = http11 := by rw [hv0]; decide
        have hn : (V != http10 && V != http11) = false := by rw [hv0]; decide
        have HR : Hid (s.request line = { s with meth := M, target := T, minor := if (V == http11) = true then 1 else s.minor }) := by show _ = _; rw [HREQ.out, if_neg (by rw [hn]; decide)]
        have hv4 : (V == [72, 84, 84, 80, 47, 49, 46, 48]) = true := by rw [hv0]; decide
        have hv5 : V = [72, 84, 84, 80, 47, 49, 46, 48] := hv0
        clear hv0 hn HREQ
        obtain ⟨vo, vl, vf, vb, hI⟩ := h1
        have q8 : W1.cell? ⟨rd, 8, none⟩ = some (.string ⟨s.meth.toArray⟩) := cell_of_heap hI.box
        have q9 : W1.cell? ⟨rd, 9, none⟩ = some (.string ⟨s.target.toArray⟩) := cell_of_heap hI.box
        have q10 : W1.cell? ⟨rd, 10, none⟩ = some (.int .i64 s.minor) := cell_of_heap hI.box
        have f8 : W1.frozen? ⟨rd, 8, none⟩ = false := free_of_heap hI.box
        have f9 : W1.frozen? ⟨rd, 9, none⟩ = false := free_of_heap hI.box
        have f10 : W1.frozen? ⟨rd, 10, none⟩ = false := free_of_heap hI.box
        have I1 := Lib.hid hI
        have M1 := Lib.hid m1
        clear hI m1
        have hv1 : (V == http11) = false := by rw [beq_eq_false_iff_ne]; exact hv
        have hv2 : (V == [72, 84, 84, 80, 47, 49, 46, 49]) = false := hv1
        have hv3 : ¬ V = [72, 84, 84, 80, 47, 49, 46, 49] := hv
        clear hv
        go_wp2_with fail
        go_end0
        have k1 := I1.out.set 8 (.string ⟨M.toArray⟩) { s with meth := M } rfl rfl rfl rfl
        have k2 := k1.set 9 (.string ⟨T.toArray⟩) { s with meth := M, target := T } rfl rfl rfl rfl
        refine ⟨rfl, ms1, ⟨vo, vl, vf, vb, ?_⟩, (M1.out.trans (I1.out.mvSet 8 _)).trans (k1.mvSet 9 _)⟩
        rw [HR.out, if_neg (by rw [hv1]; decide)]
        exact k2

      · by_cases hv : V = http11
        · have hn : (V != http10 && V != http11) = false := by rw [hv]; decide
          have HR : Hid (s.request line = { s with meth := M, target := T, minor := if (V == http11) = true then 1 else s.minor }) := by show _ = _; rw [HREQ.out, if_neg (by rw [hn]; decide)]
          have hv4 : (V == [72, 84, 84, 80, 47, 49, 46, 48]) = false := by rw [hv]; decide
          have hv5 : ¬ V = [72, 84, 84, 80, 47, 49, 46, 48] := hv0
          clear hv0 hn HREQ
          obtain ⟨vo, vl, vf, vb, hI⟩ := h1
          have q8 : W1.cell? ⟨rd, 8, none⟩ = some (.string ⟨s.meth.toArray⟩) := cell_of_heap hI.box
          have q9 : W1.cell? ⟨rd, 9, none⟩ = some (.string ⟨s.target.toArray⟩) := cell_of_heap hI.box
          have q10 : W1.cell? ⟨rd, 10, none⟩ = some (.int .i64 s.minor) := cell_of_heap hI.box
          have f8 : W1.frozen? ⟨rd, 8, none⟩ = false := free_of_heap hI.box
          have f9 : W1.frozen? ⟨rd, 9, none⟩ = false := free_of_heap hI.box
          have f10 : W1.frozen? ⟨rd, 10, none⟩ = false := free_of_heap hI.box
          have I1 := Lib.hid hI
          have M1 := Lib.hid m1
          clear hI m1
          have hv1 : (V == http11) = true := by rw [hv]; decide
          have hv2 : (V == [72, 84, 84, 80, 47, 49, 46, 49]) = true := hv1
          have hv3 : V = [72, 84, 84, 80, 47, 49, 46, 49] := hv
          clear hv
          go_wp2_with fail
          go_end0
          have k1 := I1.out.set 8 (.string ⟨M.toArray⟩) { s with meth := M } rfl rfl rfl rfl
          have k2 := k1.set 9 (.string ⟨T.toArray⟩) { s with meth := M, target := T } rfl rfl rfl rfl
          have k3 := k2.set 10 (.int .i64 1) { s with meth := M, target := T, minor := 1 } rfl rfl rfl rfl
          refine ⟨rfl, ms1, ⟨vo, vl, vf, vb, ?_⟩, ((M1.out.trans (I1.out.mvSet 8 _)).trans (k1.mvSet 9 _)).trans (k2.mvSet 10 _)⟩
          rw [HR.out, if_pos hv1]
          exact k3

        · have hn : (V != http10 && V != http11) = true := by simp [bne, hv0, hv]
          have HR : Hid (s.request line = { s.fail 70 with meth := M, target := T, minor := if (V == http11) = true then 1 else s.minor }) := by show _ = _; rw [HREQ.out, if_pos hn]
          have hv4 : (V == [72, 84, 84, 80, 47, 49, 46, 48]) = false := by rw [beq_eq_false_iff_ne]; exact hv0
          have hv5 : ¬ V = [72, 84, 84, 80, 47, 49, 46, 48] := hv0
          have hv1 : (V == http11) = false := by rw [beq_eq_false_iff_ne]; exact hv
          have hv2 : (V == [72, 84, 84, 80, 47, 49, 46, 49]) = false := hv1
          have hv3 : ¬ V = [72, 84, 84, 80, 47, 49, 46, 49] := hv
          clear hv0 hn HREQ hv
          go_wp2_with fail
          refine (fail_any h1 70).mono ?_
          clear h1
          obtain ⟨W0, rfl⟩ : ∃ x : World, x = W1 := ⟨_, rfl⟩
          obtain ⟨ms0, rfl⟩ : ∃ x, x = ms1 := ⟨_, rfl⟩
          rintro e W1 ⟨rfl, ms1, h1, m2⟩
          replace m1 := m1.trans m2
          clear m2
          obtain ⟨vo, vl, vf, vb, hI⟩ := h1
          have q8 : W1.cell? ⟨rd, 8, none⟩ = some (.string ⟨s.meth.toArray⟩) := cell_of_heap hI.box
          have q9 : W1.cell? ⟨rd, 9, none⟩ = some (.string ⟨s.target.toArray⟩) := cell_of_heap hI.box
          have q10 : W1.cell? ⟨rd, 10, none⟩ = some (.int .i64 s.minor) := cell_of_heap hI.box
          have f8 : W1.frozen? ⟨rd, 8, none⟩ = false := free_of_heap hI.box
          have f9 : W1.frozen? ⟨rd, 9, none⟩ = false := free_of_heap hI.box
          have f10 : W1.frozen? ⟨rd, 10, none⟩ = false := free_of_heap hI.box
          have I1 := Lib.hid hI
          have M1 := Lib.hid m1
          clear hI m1
          go_wp2_with fail
          go_end0
          have k1 := I1.out.set 8 (.string ⟨M.toArray⟩) { s.fail 70 with meth := M } rfl rfl rfl rfl
          have k2 := k1.set 9 (.string ⟨T.toArray⟩) { s.fail 70 with meth := M, target := T } rfl rfl rfl rfl
          refine ⟨rfl, ms1, ⟨vo, vl, vf, vb, ?_⟩, (M1.out.trans (I1.out.mvSet 8 _)).trans (k1.mvSet 9 _)⟩
          rw [HR.out, if_neg (by rw [hv1]; decide)]
          exact k2


end Go.Proofs.YtdilmefeofdkmaaGreatDoor
