/-
  law XmlBack: what is written is read as it was; what is read can be written, and is read again the same.
-/
import Derived.Test.YtgmgghbocidibaaGreatDoorSm38
namespace Go.Proofs.YtgmgghbocidibaaGreatDoor
open Go.RowKit Go.Lib Go.PlainAid

theorem wOut_no {t : Tree} (h : okT t = false) : wOut t = ([], 55) := by unfold wOut; rw [if_pos h]
theorem wOut_long {t : Tree} (h : okT t = true) (hl : 1000000 < (headC ++ writeL t).length) : wOut t = ([], 56) := by unfold wOut; rw [if_neg (by rw [h]; decide), if_pos hl]
theorem wOut_yes {t : Tree} (h : okT t = true) (hl : (headC ++ writeL t).length ≤ 1000000) : wOut t = (headC ++ writeL t, 0) := by unfold wOut; rw [if_neg (by rw [h]; decide), if_neg (by omega)]
theorem back_ok {t : Tree} (h : okT t = true) (hl : (headC ++ writeL t).length ≤ 8000) : parseL (headC ++ writeL t) = .ok t := parse_write ((okT_iff t).1 h).1 hl
/-- Parse at a text of which it is known what it gives -/
theorem parse_at {w : World} (hG : GlobX w) {l : Bs} {x : Except (Int × Int) Tree} (h : parseL l = x) (hl : l.length ≤ 140737488355328) : Calls Tryz.prog 9 #[.string ⟨l.toArray⟩] w (ParseOut x w) := by
  have h1 := Parse_any ⟨l.toArray⟩ w hG (by simpa [ByteArray.size] using hl)
  rw [show (⟨l.toArray⟩ : ByteArray).data.toList = l from rfl, h] at h1
  exact h1

set_option maxHeartbeats 8000000 in
set_option maxRecDepth 100000 in
theorem back_law {w : World} (hG : GlobX w) (t : Tree) (a : Option Addr) (c : Nat) (hT : ElemIn w t a c) (hS : okT t = true → SmT t) (s : Bs) (hs : s.length ≤ 140737488355328) :
    Calls Tryz.prog 3 #[.agg (elC t a c), .string ⟨s.toArray⟩] w fun e w' => e = .returned (.bool true) ∧ Below w.heap.size w w' := by
  have HG := Lib.hid hG
  have HT := Lib.hid hT
  have HS := Lib.hid hS
  have HLS := Lib.hid hs
  clear hG hT hS hs
  obtain ⟨W0, hw0⟩ : ∃ W0, w.alloc (.cells #[.string t.name, .string t.text, .slice a t.kids.length c] 24) = W0 := ⟨_, rfl⟩
  have X0 : Hid (WBox w W0 (elC t a c)) := ⟨by rw [← hw0]; exact below_alloc (Below.refl _ _) (Nat.le_refl _) _, by rw [← hw0]; exact heap_alloc_new _ _⟩
  have HEX := Lib.hid (ex_walk (HG.out.later X0.out.below))
  rw [show Value.agg (elC t a c) = .agg #[.string t.name, .string t.text, .slice a t.kids.length c] from rfl]
  go_enter Tryz.func3, Tryz.ntmps3
  go_wp2_with fail
  refine HEX.out.mono ?_
  rintro e W1 ⟨rfl, hb1⟩
  have X1 := Lib.hid (X0.out.later hb1)
  clear hb1 X0 HEX hw0
  have HW := Lib.hid (write_prog t a c W1 (HT.out.later X1.out.below) (HG.out.later X1.out.below).c HS.out)
  go_upto_region 3 with (refine wpList_load_row (by rfl) 24 _ (by rfl) w.heap.size (by rfl) 24 (elC t a c) (0, 0) _ (by exact X1.out.box) Tryz.underlying24 rfl (by kernel_rfl) ?_)
  refine HW.out.mono ?_
  rintro e W2 ⟨rfl, hb2⟩
  have X2 := Lib.hid (X1.out.later hb2)
  clear hb2 X1 HW
  obtain ⟨l, n, hl⟩ : ∃ l n, wOut t = (l, n) := ⟨_, _, rfl⟩
  rw [hl]
  have HWO := Lib.hid hl
  clear hl
  go_upto_region 3 with (fail)
  go_cut [30] (fun s30 wr => s30 = .bool (decide (n = 0) && decide (l.length ≤ 8000)) ∧ wr = W2)
  case first =>
    by_cases hn : n = 0
    · subst hn
      by_cases h8 : l.length ≤ 8000
      · have h8z : (l.length : Int) ≤ 8000 := by omega
        go_wp2_with fail
        go_meet
        case rel => exact ⟨by simp [h8], rfl⟩
      · have h8z : ¬ (l.length : Int) ≤ 8000 := by omega
        go_wp2_with fail
        go_meet
        case rel => exact ⟨by simp [h8], rfl⟩
    · have hnb : (n == 0) = false := beq_eq_false_iff_ne.2 hn
      go_wp2_with fail
      go_meet
      case rel => exact ⟨by simp [hn], rfl⟩
  obtain ⟨rfl, hww⟩ := hcut
  have hww := hww.symm
  subst hww
  go_upto_if 30 with (fail)
  go_cut [] (fun wr => Hid (Below w.heap.size w wr))
  case first =>
    by_cases hn : n = 0
    · subst hn
      have hok : okT t = true := by
        cases h : okT t with
        | true => rfl
        | false => have h1 := HWO.out; rw [wOut_no h] at h1; injection h1 with _ h1; cases h1
      have hle : (headC ++ writeL t).length ≤ 1000000 := by
        rcases Nat.lt_or_ge 1000000 (headC ++ writeL t).length with h | h
        · have h1 := HWO.out; rw [wOut_long hok h] at h1; injection h1 with _ h1; cases h1
        · exact h
      have hll : headC ++ writeL t = l := by
        have h1 := HWO.out; rw [wOut_yes hok hle] at h1; injection h1
      by_cases h8 : l.length ≤ 8000
      · have HP := Lib.hid (parse_at (HG.out.later X2.out.below) (by rw [← hll] at h8 ⊢; exact back_ok hok h8) (l := l) (x := .ok t) (by omega))
        have HOK := Lib.hid hok
        clear hle hll hok HWO
        rw [show (decide ((0:Int) = 0) && decide (l.length ≤ 8000)) = true from by simp [h8]]
        go_wp2_with fail
        refine HP.out.mono ?_
        rintro e W3 ⟨hb3, z, rfl, ho⟩
        obtain ⟨a3, c3, rfl, hT3⟩ := ho.form
        have X3 := Lib.hid (X2.out.later hb3)
        have T3 := Lib.hid hT3
        clear hb3 hT3 ho HP X2
        go_upto_region 5 with (refine wpList_store_rowN (by rfl) 24 _ _ (by rfl) W3.heap.size (elC t a3 c3) (by rfl) (by rfl) 24 elemZC (by exact heap_alloc_new _ _) (by kernel_rfl) (by rfl) (by kernel_rfl) (fun W => W.heap[W3.heap.size]? = some (.cells (elC t a3 c3) 24 (0, 0)) ∧ Below W3.heap.size W3 W) (elem_box rfl rfl) ?_; rintro W4 h4)
        have X4 := Lib.hid (X3.out.later h4.2)
        have Y4 := Lib.hid h4.1
        have T4 := Lib.hid (T3.out.later h4.2)
        have HSA := Lib.hid (Same_prog t t a a3 c c3 W4 (HT.out.later X4.out.below) T4.out (HG.out.later X4.out.below).c)
        rw [HOK.out, same_refl] at HSA
        clear h4 X3 T3
        generalize W3.heap.size = g3 at *
        go_wp2_with (first
          | (refine wpList_wanted (by go_simp) ?_; refine wp_load_row 24 _ (by rfl) w.heap.size (by rfl) 24 (elC t a c) (0, 0) _ (by exact X4.out.box) Tryz.underlying24 rfl (by kernel_rfl) ?_)
          | (refine wpList_wanted (by go_simp) ?_; refine wp_load_row 24 _ (by rfl) g3 (by rfl) 24 (elC t a3 c3) (0, 0) _ (by exact Y4.out) Tryz.underlying24 rfl (by kernel_rfl) ?_))
        refine HSA.out.mono ?_
        rintro e W5 ⟨rfl, hb5⟩
        have B5 := Lib.hid (X4.out.below.trans (hb5.mono X4.out.below.size))
        clear hb5
        go_wp2_with fail
        go_meet
        case rel => exact B5.out
      · have B5 := Lib.hid X2.out.below
        rw [show (decide ((0:Int) = 0) && decide (l.length ≤ 8000)) = false from by simp [h8]]
        go_wp2_with fail
        go_meet
        case rel => exact B5.out
    · have B5 := Lib.hid X2.out.below
      rw [show (decide (n = 0) && decide (l.length ≤ 8000)) = false from by simp [hn]]
      go_wp2_with fail
      go_meet
      case rel => exact B5.out
  case rest =>
    have B2 := hcut
    clear hcut X2 HWO HT HS
    obtain ⟨x, hx⟩ : ∃ x, parseL s = x := ⟨_, rfl⟩
    have HP := Lib.hid (parse_at (HG.out.later B2.out) hx HLS.out)
    have HX := Lib.hid hx
    clear hx
    go_wp2_with fail
    refine HP.out.mono ?_
    cases x with
    | error cp =>
      obtain ⟨cc, pp⟩ := cp
      rintro e W3 ⟨hb3, F, rfl, hF, hFl⟩
      have B3 := Lib.hid (B2.out.trans (hb3.mono B2.out.size))
      clear hb3 hF hFl HP HX
      go_upto_region 8 with (refine wpList_store_rowN (by rfl) 24 _ _ (by rfl) W3.heap.size elemZC (by rfl) (by rfl) 24 elemZC (by exact heap_alloc_new _ _) (by kernel_rfl) (by rfl) (by kernel_rfl) (fun W => Below W3.heap.size W3 W) ((elem_box rfl rfl).2) ?_; rintro W4 h4)
      have B4 := Lib.hid (B3.out.trans (h4.mono B3.out.size))
      clear h4
      go_wp2_with fail
      go_ret
      exact ⟨rfl, B4.out⟩
    | ok t =>
      rintro e W3 ⟨hb3, z, rfl, ho⟩
      obtain ⟨a3, c3, rfl, hT3⟩ := ho.form
      have B3 := Lib.hid (B2.out.trans (hb3.mono B2.out.size))
      have T3 := Lib.hid hT3
      obtain ⟨hok, hrt, hle⟩ := parse_okT HX.out
      clear hb3 hT3 ho HP B2 hrt
      go_upto_region 8 with (refine wpList_store_rowN (by rfl) 24 _ _ (by rfl) W3.heap.size (elC t a3 c3) (by rfl) (by rfl) 24 elemZC (by exact heap_alloc_new _ _) (by kernel_rfl) (by rfl) (by kernel_rfl) (fun W => W.heap[W3.heap.size]? = some (.cells (elC t a3 c3) 24 (0, 0)) ∧ Below W3.heap.size W3 W) (elem_box rfl rfl) ?_; rintro W4 h4)
      have B4 := Lib.hid (B3.out.trans (h4.2.mono B3.out.size))
      have Y4 := Lib.hid h4.1
      have T4 := Lib.hid (T3.out.later h4.2)
      clear h4 T3 B3
      generalize W3.heap.size = g3 at *
      have HSMT : Hid (SmT t) := sm_of_short _ (by rw [List.length_append] at hle; omega)
      have HW := Lib.hid (write_prog t a3 c3 W4 T4.out (HG.out.later B4.out).c (fun _ => HSMT.out))
      have HWY := Lib.hid (wOut_yes hok hle)
      rw [HWY.out] at HW
      have HOK : Hid (okT t = true) := hok
      have HBK := Lib.hid (fun h => back_ok (t := t) hok h)
      obtain ⟨l2, hl2⟩ : ∃ l2, headC ++ writeL t = l2 := ⟨_, rfl⟩
      rw [hl2] at HW hle HBK HWY
      clear hok hl2
      go_upto_region 10 with (fail)
      go_wp2_with (refine wpList_load_row (by rfl) 24 _ (by rfl) g3 (by rfl) 24 (elC t a3 c3) (0, 0) _ (by exact Y4.out) Tryz.underlying24 rfl (by kernel_rfl) ?_)
      refine HW.out.mono ?_
      rintro e W5 ⟨rfl, hb5⟩
      have B5 := Lib.hid (B4.out.trans (hb5.mono B4.out.size))
      have Y5 := Lib.hid ((hb5.block g3 (Array.getElem?_eq_some_iff.1 Y4.out).1).trans Y4.out)
      have T5 := Lib.hid (T4.out.later hb5)
      clear hb5 T4 Y4 B4 HW
      by_cases h8 : 8000 < l2.length
      · have h8z : (8000 : Int) < (l2.length : Int) := by omega
        go_wp2_with fail
        go_ret
        exact ⟨rfl, B5.out⟩
      · have h8z : ¬ (8000 : Int) < (l2.length : Int) := by omega
        have HP := Lib.hid (parse_at (HG.out.later B5.out) (HBK.out (by omega)) (by omega))
        go_wp2_with fail
        refine HP.out.mono ?_
        rintro e W6 ⟨hb6, z, rfl, ho⟩
        obtain ⟨a6, c6, rfl, hT6⟩ := ho.form
        have B6 := Lib.hid (B5.out.trans (hb6.mono B5.out.size))
        have Y6 := Lib.hid ((hb6.block g3 (Array.getElem?_eq_some_iff.1 Y5.out).1).trans Y5.out)
        have T6 := Lib.hid (T5.out.later hb6)
        have U6 := Lib.hid hT6
        clear hb6 hT6 ho HP B5 Y5 T5
        go_upto_region 16 with (refine wpList_store_rowN (by rfl) 24 _ _ (by rfl) W6.heap.size (elC t a6 c6) (by rfl) (by rfl) 24 elemZC (by exact heap_alloc_new _ _) (by kernel_rfl) (by rfl) (by kernel_rfl) (fun W => W.heap[W6.heap.size]? = some (.cells (elC t a6 c6) 24 (0, 0)) ∧ Below W6.heap.size W6 W) (elem_box rfl rfl) ?_; rintro W7 h7)
        have B7 := Lib.hid (B6.out.trans (h7.2.mono B6.out.size))
        have Y7 := Lib.hid ((h7.2.block g3 (Array.getElem?_eq_some_iff.1 Y6.out).1).trans Y6.out)
        have Z7 := Lib.hid h7.1
        have T7 := Lib.hid (T6.out.later h7.2)
        have U7 := Lib.hid (U6.out.later h7.2)
        clear h7 T6 U6 Y6 B6
        generalize W6.heap.size = g6 at *
        have HW := Lib.hid (write_prog t a6 c6 W7 U7.out (HG.out.later B7.out).c (fun _ => HSMT.out))
        rw [HWY.out] at HW
        go_upto_region 17 with (refine wpList_load_row (by rfl) 24 _ (by rfl) g6 (by rfl) 24 (elC t a6 c6) (0, 0) _ (by exact Z7.out) Tryz.underlying24 rfl (by kernel_rfl) ?_)
        refine HW.out.mono ?_
        rintro e W8 ⟨rfl, hb8⟩
        have B8 := Lib.hid (B7.out.trans (hb8.mono B7.out.size))
        have Y8 := Lib.hid ((hb8.block g3 (Array.getElem?_eq_some_iff.1 Y7.out).1).trans Y7.out)
        have Z8 := Lib.hid ((hb8.block g6 (Array.getElem?_eq_some_iff.1 Z7.out).1).trans Z7.out)
        have T8 := Lib.hid (T7.out.later hb8)
        have U8 := Lib.hid (U7.out.later hb8)
        have HSA := Lib.hid (Same_prog t t a3 a6 c3 c6 W8 T8.out U8.out (HG.out.later B8.out).c)
        rw [HOK.out, same_refl] at HSA
        clear hb8 T7 U7 Y7 Z7 B7 HW
        go_wp2_with (first
          | (refine wpList_wanted (by go_simp) ?_; refine wp_load_row 24 _ (by rfl) g3 (by rfl) 24 (elC t a3 c3) (0, 0) _ (by exact Y8.out) Tryz.underlying24 rfl (by kernel_rfl) ?_)
          | (refine wpList_wanted (by go_simp) ?_; refine wp_load_row 24 _ (by rfl) g6 (by rfl) 24 (elC t a6 c6) (0, 0) _ (by exact Z8.out) Tryz.underlying24 rfl (by kernel_rfl) ?_))
        refine HSA.out.mono ?_
        rintro e W9 ⟨rfl, hb9⟩
        have B9 := Lib.hid (B8.out.trans (hb9.mono B8.out.size))
        clear hb9
        go_wp2_with fail
        go_ret
        exact ⟨rfl, B9.out⟩
end Go.Proofs.YtgmgghbocidibaaGreatDoor
