/-
  law XmlHeads: what stands around an element's name, ahead of it and behind it, changes nothing.
-/
import Derived.Test.YtgmgghbocidibaaGreatDoorXmBackL
import Derived.Test.YtgmgghbocidibaaGreatDoorXmLaw4
namespace Go.Proofs.YtgmgghbocidibaaGreatDoor
open Go.RowKit Go.Lib Go.PlainAid

def padB (i : Nat) : UInt8 := if i % 4 = 0 then 32 else if i % 4 = 1 then 10 else if i % 4 = 2 then 9 else 13
def padL : Nat → Bs
  | 0 => []
  | i + 1 => padL i ++ [padB i]
theorem padL_len : ∀ i, (padL i).length = i
  | 0 => rfl
  | i + 1 => by rw [padL, List.length_append, padL_len i]; rfl
theorem padL_blank : ∀ i, ∀ b ∈ padL i, blankB b = true
  | 0, b, h => by cases h
  | i + 1, b, h => by
    rw [padL, List.mem_append] at h
    rcases h with h | h
    · exact padL_blank i b h
    · rw [List.mem_singleton.1 h]
      unfold padB
      repeat' split
      all_goals decide
theorem plain_str (s : Bs) : (⟨#[60, 97, 62]⟩ ++ ⟨s.toArray⟩ ++ ⟨#[60, 47, 97, 62]⟩ : ByteArray) = ⟨(plainA s).toArray⟩ := str3 [60, 97, 62] s [60, 47, 97, 62]
theorem rich_str (pad s : Bs) : (⟨pad.toArray⟩ ++ ⟨headA.toArray⟩ ++ ⟨pad.toArray⟩ ++ ⟨beginA.toArray⟩ ++ ⟨pad.toArray⟩ ++ ⟨#[62]⟩ ++ ⟨s.toArray⟩ ++ ⟨#[60, 47, 97]⟩ ++ ⟨pad.toArray⟩ ++ ⟨#[62]⟩ ++ ⟨pad.toArray⟩ : ByteArray) = ⟨(richA pad s).toArray⟩ := by
  unfold richA
  rw [str2, str2, str2, str2, str2, str2, str2, str2, str2, str2]

set_option maxHeartbeats 8000000 in
set_option maxRecDepth 100000 in
theorem heads_walk {w : World} (hG : GlobX w) (s : Bs) (n : Int) :
    Calls Tryz.prog 5 #[.string ⟨s.toArray⟩, .int .i64 n] w fun e w' => e = .returned (.bool true) ∧ Below w.heap.size w w' := by
  have HG := Lib.hid hG
  have HEX := Lib.hid (ex_walk hG)
  clear hG
  go_enter Tryz.func5, Tryz.ntmps5
  go_wp2_with fail
  refine HEX.out.mono ?_
  rintro e W1 ⟨rfl, hb1⟩
  have B1 := Lib.hid hb1
  clear hb1 HEX
  by_cases h7 : 7000 < s.length
  · have h7z : (7000 : Int) < (s.length : Int) := by omega
    go_wp2_with fail
    go_ret
    exact ⟨rfl, B1.out⟩
  have h7z : ¬ (7000 : Int) < (s.length : Int) := by omega
  by_cases hn0 : n < 0
  · go_wp2_with fail
    go_ret
    exact ⟨rfl, B1.out⟩
  by_cases hn1 : 50 < n
  · go_wp2_with fail
    go_ret
    exact ⟨rfl, B1.out⟩
  obtain ⟨m, rfl⟩ : ∃ m : Nat, n = m := ⟨n.toNat, by omega⟩
  have hm : m ≤ 50 := by omega
  have HM := Lib.hid hm
  go_wp2_with fail
  go_loopg [6, 7] m (fun gg s6 s7 wr => ∃ i : Nat, i ≤ m ∧ m - i ≤ gg ∧ s7 = .int .i64 i ∧ s6 = .string ⟨(padL i).toArray⟩ ∧ wr = W1)
  case atStart => exact ⟨0, Nat.zero_le _, by omega, rfl, rfl, rfl⟩
  case round =>
    obtain ⟨i, him, hg, rfl, rfl, hww⟩ := hrel
    have hww := hww.symm
    subst hww
    by_cases hlt : i < m
    · have hiz : (i : Int) < (m : Int) := by omega
      have hpl : (padL i).length = i := padL_len i
      have HPS : Hid (padL (i + 1) = padL i ++ [padB i]) := rfl
      obtain ⟨p, hp⟩ : ∃ p, padL i = p := ⟨_, rfl⟩
      rw [hp] at hpl HPS ⊢
      have h4 : i % 4 = 0 ∨ i % 4 = 1 ∨ i % 4 = 2 ∨ i % 4 = 3 := by omega
      have hrem : (i : Int).tmod 4 = ((i % 4 : Nat) : Int) := by rw [Int.tmod_eq_emod_of_nonneg (by omega)]; omega
      rcases h4 with h4 | h4 | h4 | h4
      · have HPB : Hid (padB i = 32) := by show _ = _; unfold padB; rw [h4]; rfl
        rw [h4] at hrem
        clear h4
        have hrem : (i : Int).tmod 4 = 0 := hrem
        go_wp2_with fail
        go_roundg (m - (i + 1))
        case measure => omega
        case rel => exact ⟨i + 1, by omega, Nat.le_refl _, by go_num, congrArg Value.string ((str2 p [32]).trans (by rw [HPS.out, HPB.out])), rfl⟩
      · have HPB : Hid (padB i = 10) := by show _ = _; unfold padB; rw [h4]; rfl
        rw [h4] at hrem
        clear h4
        have hrem : (i : Int).tmod 4 = 1 := hrem
        go_wp2_with fail
        go_roundg (m - (i + 1))
        case measure => omega
        case rel => exact ⟨i + 1, by omega, Nat.le_refl _, by go_num, congrArg Value.string ((str2 p [10]).trans (by rw [HPS.out, HPB.out])), rfl⟩
      · have HPB : Hid (padB i = 9) := by show _ = _; unfold padB; rw [h4]; rfl
        rw [h4] at hrem
        clear h4
        have hrem : (i : Int).tmod 4 = 2 := hrem
        go_wp2_with fail
        go_roundg (m - (i + 1))
        case measure => omega
        case rel => exact ⟨i + 1, by omega, Nat.le_refl _, by go_num, congrArg Value.string ((str2 p [9]).trans (by rw [HPS.out, HPB.out])), rfl⟩
      · have HPB : Hid (padB i = 13) := by show _ = _; unfold padB; rw [h4]; rfl
        rw [h4] at hrem
        clear h4
        have hrem : (i : Int).tmod 4 = 3 := hrem
        go_wp2_with fail
        go_roundg (m - (i + 1))
        case measure => omega
        case rel => exact ⟨i + 1, by omega, Nat.le_refl _, by go_num, congrArg Value.string ((str2 p [13]).trans (by rw [HPS.out, HPB.out])), rfl⟩
    · obtain rfl : i = m := by omega
      have hpl : (padL i).length = i := padL_len i
      have HBL := Lib.hid (padL_blank i)
      obtain ⟨p, hp⟩ : ∃ p, padL i = p := ⟨_, rfl⟩
      rw [hp] at hpl HBL ⊢
      clear hp
      have hp50 : p.length ≤ 50 := by omega
      have HH := Lib.hid (heads_law (pad := p) (s := s) HBL.out hp50 (by omega))
      have HLA : Hid ((plainA s).length ≤ 140737488355328) := by show _ ≤ _; unfold plainA; simp only [List.length_append, List.length_cons, List.length_nil]; omega
      have HLR : Hid ((richA p s).length ≤ 140737488355328) := by show _ ≤ _; unfold richA headA beginA; simp only [List.length_append, List.length_cons, List.length_nil]; omega
      rcases HH.out with ⟨c, p1, p2, rfl | rfl, hx1, hx2⟩ | ⟨t, hx1, hx2⟩
      · have HP1 := Lib.hid (parse_at (HG.out.later B1.out) hx1 HLA.out)
        have HX2 := Lib.hid hx2
        rw [← plain_str] at HP1
        clear hx1 hx2
        go_wp2_with fail
        refine HP1.out.mono ?_
        rintro e W2 ⟨hb2, F1, rfl, hF1, hFl1⟩
        have B2 := Lib.hid (B1.out.trans (hb2.mono B1.out.size))
        have HF1 := Lib.hid hF1
        clear hb2 hF1 hFl1 HP1 B1
        go_upto_region 10 with (refine wpList_store_rowN (by rfl) 24 _ _ (by rfl) W2.heap.size elemZC (by rfl) (by rfl) 24 elemZC (by exact heap_alloc_new _ _) (by kernel_rfl) (by rfl) (by kernel_rfl) (fun W => Below W2.heap.size W2 W) ((elem_box rfl rfl).2) ?_; rintro W3 h3)
        have B3 := Lib.hid (B2.out.trans (h3.mono B2.out.size))
        have HF3 := Lib.hid ((h3.block F1 (Array.getElem?_eq_some_iff.1 HF1.out).1).trans HF1.out)
        clear h3 HF1 B2
        have HP2 := Lib.hid (parse_at (HG.out.later B3.out) HX2.out HLR.out)
        rw [← rich_str] at HP2
        unfold headA beginA at HP2
        go_wp2_with fail
        refine HP2.out.mono ?_
        rintro e W4 ⟨hb4, F2, rfl, hF2, hFl2⟩
        have B4 := Lib.hid (B3.out.trans (hb4.mono B3.out.size))
        have HF4 := Lib.hid ((hb4.block F1 (Array.getElem?_eq_some_iff.1 HF3.out).1).trans HF3.out)
        have HG4 := Lib.hid hF2
        clear hb4 hF2 hFl2 HP2 HX2 HF3 B3
        go_upto_region 11 with (refine wpList_store_rowN (by rfl) 24 _ _ (by rfl) W4.heap.size elemZC (by rfl) (by rfl) 24 elemZC (by exact heap_alloc_new _ _) (by kernel_rfl) (by rfl) (by kernel_rfl) (fun W => Below W4.heap.size W4 W) ((elem_box rfl rfl).2) ?_; rintro W5 h5)
        have B5 := Lib.hid (B4.out.trans (h5.mono B4.out.size))
        have HT1 := Lib.hid (told_fault (w := W5) ((h5.block F1 (Array.getElem?_eq_some_iff.1 HF4.out).1).trans HF4.out) (by decide))
        have HG5 := Lib.hid ((h5.block F2 (Array.getElem?_eq_some_iff.1 HG4.out).1).trans HG4.out)
        clear h5 HF4 HG4 B4
        go_wp2_with fail
        refine HT1.out.mono ?_
        rintro e W6 ⟨rfl, hb6⟩
        have B6 := Lib.hid (B5.out.trans (hb6.mono B5.out.size))
        have HT2 := Lib.hid (told_fault (w := W6) ((hb6.block F2 (Array.getElem?_eq_some_iff.1 HG5.out).1).trans HG5.out) (by decide))
        clear hb6 HG5 HT1 B5
        go_wp2_with fail
        refine HT2.out.mono ?_
        rintro e W7 ⟨rfl, hb7⟩
        have B7 := Lib.hid (B6.out.trans (hb7.mono B6.out.size))
        clear hb7 HT2 B6
        go_wp2_with fail
        go_ret
        exact ⟨rfl, B7.out⟩
      · have HP1 := Lib.hid (parse_at (HG.out.later B1.out) hx1 HLA.out)
        have HX2 := Lib.hid hx2
        rw [← plain_str] at HP1
        clear hx1 hx2
        go_wp2_with fail
        refine HP1.out.mono ?_
        rintro e W2 ⟨hb2, F1, rfl, hF1, hFl1⟩
        have B2 := Lib.hid (B1.out.trans (hb2.mono B1.out.size))
        have HF1 := Lib.hid hF1
        clear hb2 hF1 hFl1 HP1 B1
        go_upto_region 10 with (refine wpList_store_rowN (by rfl) 24 _ _ (by rfl) W2.heap.size elemZC (by rfl) (by rfl) 24 elemZC (by exact heap_alloc_new _ _) (by kernel_rfl) (by rfl) (by kernel_rfl) (fun W => Below W2.heap.size W2 W) ((elem_box rfl rfl).2) ?_; rintro W3 h3)
        have B3 := Lib.hid (B2.out.trans (h3.mono B2.out.size))
        have HF3 := Lib.hid ((h3.block F1 (Array.getElem?_eq_some_iff.1 HF1.out).1).trans HF1.out)
        clear h3 HF1 B2
        have HP2 := Lib.hid (parse_at (HG.out.later B3.out) HX2.out HLR.out)
        rw [← rich_str] at HP2
        unfold headA beginA at HP2
        go_wp2_with fail
        refine HP2.out.mono ?_
        rintro e W4 ⟨hb4, F2, rfl, hF2, hFl2⟩
        have B4 := Lib.hid (B3.out.trans (hb4.mono B3.out.size))
        have HF4 := Lib.hid ((hb4.block F1 (Array.getElem?_eq_some_iff.1 HF3.out).1).trans HF3.out)
        have HG4 := Lib.hid hF2
        clear hb4 hF2 hFl2 HP2 HX2 HF3 B3
        go_upto_region 11 with (refine wpList_store_rowN (by rfl) 24 _ _ (by rfl) W4.heap.size elemZC (by rfl) (by rfl) 24 elemZC (by exact heap_alloc_new _ _) (by kernel_rfl) (by rfl) (by kernel_rfl) (fun W => Below W4.heap.size W4 W) ((elem_box rfl rfl).2) ?_; rintro W5 h5)
        have B5 := Lib.hid (B4.out.trans (h5.mono B4.out.size))
        have HT1 := Lib.hid (told_fault (w := W5) ((h5.block F1 (Array.getElem?_eq_some_iff.1 HF4.out).1).trans HF4.out) (by decide))
        have HG5 := Lib.hid ((h5.block F2 (Array.getElem?_eq_some_iff.1 HG4.out).1).trans HG4.out)
        clear h5 HF4 HG4 B4
        go_wp2_with fail
        refine HT1.out.mono ?_
        rintro e W6 ⟨rfl, hb6⟩
        have B6 := Lib.hid (B5.out.trans (hb6.mono B5.out.size))
        have HT2 := Lib.hid (told_fault (w := W6) ((hb6.block F2 (Array.getElem?_eq_some_iff.1 HG5.out).1).trans HG5.out) (by decide))
        clear hb6 HG5 HT1 B5
        go_wp2_with fail
        refine HT2.out.mono ?_
        rintro e W7 ⟨rfl, hb7⟩
        have B7 := Lib.hid (B6.out.trans (hb7.mono B6.out.size))
        clear hb7 HT2 B6
        go_wp2_with fail
        go_ret
        exact ⟨rfl, B7.out⟩
      · have HP1 := Lib.hid (parse_at (HG.out.later B1.out) hx1 HLA.out)
        have HX2 := Lib.hid hx2
        have HOK : Hid (okT t = true) := (parse_okT hx1).1
        rw [← plain_str] at HP1
        clear hx1 hx2
        go_wp2_with fail
        refine HP1.out.mono ?_
        rintro e W2 ⟨hb2, z, rfl, ho⟩
        obtain ⟨a2, c2, rfl, hT2⟩ := ho.form
        have B2 := Lib.hid (B1.out.trans (hb2.mono B1.out.size))
        have T2 := Lib.hid hT2
        clear hb2 hT2 ho HP1 B1
        go_upto_region 10 with (refine wpList_store_rowN (by rfl) 24 _ _ (by rfl) W2.heap.size (elC t a2 c2) (by rfl) (by rfl) 24 elemZC (by exact heap_alloc_new _ _) (by kernel_rfl) (by rfl) (by kernel_rfl) (fun W => W.heap[W2.heap.size]? = some (.cells (elC t a2 c2) 24 (0, 0)) ∧ Below W2.heap.size W2 W) (elem_box rfl rfl) ?_; rintro W3 h3)
        have B3 := Lib.hid (B2.out.trans (h3.2.mono B2.out.size))
        have Y3 := Lib.hid h3.1
        have T3 := Lib.hid (T2.out.later h3.2)
        clear h3 T2 B2
        generalize W2.heap.size = g2 at *
        have HP2 := Lib.hid (parse_at (HG.out.later B3.out) HX2.out HLR.out)
        rw [← rich_str] at HP2
        unfold headA beginA at HP2
        go_wp2_with fail
        refine HP2.out.mono ?_
        rintro e W4 ⟨hb4, z, rfl, ho⟩
        obtain ⟨a4, c4, rfl, hU4⟩ := ho.form
        have B4 := Lib.hid (B3.out.trans (hb4.mono B3.out.size))
        have Y4 := Lib.hid ((hb4.block g2 (Array.getElem?_eq_some_iff.1 Y3.out).1).trans Y3.out)
        have T4 := Lib.hid (T3.out.later hb4)
        have U4 := Lib.hid hU4
        clear hb4 hU4 ho HP2 HX2 Y3 T3 B3
        go_upto_region 11 with (refine wpList_store_rowN (by rfl) 24 _ _ (by rfl) W4.heap.size (elC t a4 c4) (by rfl) (by rfl) 24 elemZC (by exact heap_alloc_new _ _) (by kernel_rfl) (by rfl) (by kernel_rfl) (fun W => W.heap[W4.heap.size]? = some (.cells (elC t a4 c4) 24 (0, 0)) ∧ Below W4.heap.size W4 W) (elem_box rfl rfl) ?_; rintro W5 h5)
        have B5 := Lib.hid (B4.out.trans (h5.2.mono B4.out.size))
        have Y5 := Lib.hid ((h5.2.block g2 (Array.getElem?_eq_some_iff.1 Y4.out).1).trans Y4.out)
        have Z5 := Lib.hid h5.1
        have T5 := Lib.hid (T4.out.later h5.2)
        have U5 := Lib.hid (U4.out.later h5.2)
        have HT1 := Lib.hid (told_nil W5)
        clear h5 T4 U4 Y4 B4
        generalize W4.heap.size = g4 at *
        go_wp2_with fail
        refine HT1.out.mono ?_
        rintro e W6 ⟨rfl, hb6⟩
        have B6 := Lib.hid (B5.out.trans (hb6.mono B5.out.size))
        have Y6 := Lib.hid ((hb6.block g2 (Array.getElem?_eq_some_iff.1 Y5.out).1).trans Y5.out)
        have Z6 := Lib.hid ((hb6.block g4 (Array.getElem?_eq_some_iff.1 Z5.out).1).trans Z5.out)
        have T6 := Lib.hid (T5.out.later hb6)
        have U6 := Lib.hid (U5.out.later hb6)
        have HT2 := Lib.hid (told_nil W6)
        clear hb6 T5 U5 Y5 Z5 B5 HT1
        go_wp2_with fail
        refine HT2.out.mono ?_
        rintro e W7 ⟨rfl, hb7⟩
        have B7 := Lib.hid (B6.out.trans (hb7.mono B6.out.size))
        have Y7 := Lib.hid ((hb7.block g2 (Array.getElem?_eq_some_iff.1 Y6.out).1).trans Y6.out)
        have Z7 := Lib.hid ((hb7.block g4 (Array.getElem?_eq_some_iff.1 Z6.out).1).trans Z6.out)
        have T7 := Lib.hid (T6.out.later hb7)
        have U7 := Lib.hid (U6.out.later hb7)
        have HSA := Lib.hid (Same_prog t t a2 a4 c2 c4 W7 T7.out U7.out (HG.out.later B7.out).c)
        rw [HOK.out, same_refl] at HSA
        clear hb7 T6 U6 Y6 Z6 B6 HT2
        go_wp2_with (first
          | (refine wpList_wanted (by go_simp) ?_; refine wp_load_row 24 _ (by rfl) g2 (by rfl) 24 (elC t a2 c2) (0, 0) _ (by exact Y7.out) Tryz.underlying24 rfl (by kernel_rfl) ?_)
          | (refine wpList_wanted (by go_simp) ?_; refine wp_load_row 24 _ (by rfl) g4 (by rfl) 24 (elC t a4 c4) (0, 0) _ (by exact Z7.out) Tryz.underlying24 rfl (by kernel_rfl) ?_))
        refine HSA.out.mono ?_
        rintro e W8 ⟨rfl, hb8⟩
        have B8 := Lib.hid (B7.out.trans (hb8.mono B7.out.size))
        clear hb8
        go_wp2_with fail
        go_ret
        exact ⟨rfl, B8.out⟩
end Go.Proofs.YtgmgghbocidibaaGreatDoor
