/-
  WIRE: examples: the walk.
-/
import Derived.Test.YtdilmefeofdkmaaGreatDoorSm33
import Derived.Test.YtdilmefeofdkmaaGreatDoorWiEnc
import Derived.Test.YtdilmefeofdkmaaGreatDoorWiAnsS
namespace Go.Proofs.YtdilmefeofdkmaaGreatDoor
open Go.RowKit

def exA : List UInt8 := [80, 85, 84, 32, 47, 97, 32, 72, 84, 84, 80, 47, 49, 46, 49, 13, 10, 104, 111, 115, 116, 58, 32, 104, 13, 10, 67, 111, 110, 116, 101, 110, 116, 45, 76, 101, 110, 103, 116, 104, 58, 32, 51, 13, 10, 13, 10, 97, 98]
def exB : List UInt8 := [99, 71, 69, 84]
def exC : List UInt8 := [71, 65, 82, 66, 65, 71, 69, 10]
def exE : List UInt8 := [72, 84, 84, 80, 47, 49, 46, 49, 32, 50, 48, 48, 32, 79, 75, 13, 10, 67, 111, 110, 116, 101, 110, 116, 45, 76, 101, 110, 103, 116, 104, 58, 32, 49, 13, 10, 13, 10, 120]
def exReq : ReqV := ⟨[80, 85, 84], [47, 97], 1, [([104, 111, 115, 116], [104]), (longL, [51])], [97, 98, 99], false⟩
theorem ex_A : (rsZ.feed exA).2 = [] ∧ (rsZ.feed exA).1.held = 49 := by decide +kernel
theorem ex_B : ((rsZ.feed exA).1.feed exB).2 = [exReq] ∧ ((rsZ.feed exA).1.feed exB).1.held = 3 := by decide +kernel
theorem ex_C : (rsZ.feed exC).2 = [] ∧ (rsZ.feed exC).1.fault = 60 ∧ (rsZ.feed exC).1.done = true := by decide +kernel
theorem ex_field : fieldV [([72, 111, 115, 116], [104])] [104, 111, 115, 116] = some [104] := by decide +kernel
theorem ex_200 : Lib.itoa 200 = [50, 48, 48] := by
  rw [show (200 : Int) = ((200 : Nat) : Int) from rfl, Lib.itoa_nonneg]
  rw [Lib.decDigits, dif_neg (by omega), Lib.decDigits, dif_neg (by omega), Lib.decDigits, dif_pos (by omega)]
  rfl
theorem ex_1 : Lib.itoa 1 = [49] := by
  rw [show (1 : Int) = ((1 : Nat) : Int) from rfl, Lib.itoa_nonneg]
  rw [Lib.decDigits, dif_pos (by omega)]
  rfl
theorem ex_enc : encodeV 200 [] [120] false false = some exE := by
  have h : encodeV 200 [] [120] false false = some (headT 200 ++ ([] : List (List UInt8 × List UInt8)).flatMap fieldT ++ (if (200 : Int) ≠ 204 then clT ++ Lib.itoa (([120] : List UInt8).length : Int) ++ endL else []) ++ (if false then connT else []) ++ endL ++ (if false then [] else [120])) := by
    unfold encodeV
    rw [if_neg (by decide), if_neg (by decide)]
  rw [h]
  unfold headT
  rw [ex_200, show ((([120] : List UInt8).length : Nat) : Int) = 1 from rfl, ex_1]
  rfl

set_option maxHeartbeats 8000000 in
set_option maxRecDepth 100000 in
theorem ex_walk (w : World) (hG : Glob w) : Calls Tryz.prog 10 #[] w fun e w' => e = .returned (.bool true) ∧ Below w.heap.size w w' := by
  have HG : Hid (∀ W, Below w.heap.size w W → Glob W) := fun W hW => hG.later hW
  have hGB := hG.big
  have HNW := Lib.hid (fun W hW => new_any W (HG.out W hW))
  have HENC : Hid (∀ W, Below w.heap.size w W → Calls Tryz.prog 22 #[.agg #[.int .i64 200, .slice none 0 0, .string ⟨#[120]⟩, .bool false, .bool false]] W fun e w' => e = .returned (.tuple #[.string ⟨#[72, 84, 84, 80, 47, 49, 46, 49, 32, 50, 48, 48, 32, 79, 75, 13, 10, 67, 111, 110, 116, 101, 110, 116, 45, 76, 101, 110, 103, 116, 104, 58, 32, 49, 13, 10, 13, 10, 120]⟩, .int .i64 0]) ∧ Below W.heap.size W w') := fun W hW => by
    have := encode_any 200 (by unfold IntOK; decide) (vf := .slice none 0 0) (fs := []) (w := W) ⟨none, 0, rfl, Nat.le_refl _, by decide, fun i f h => by simp at h⟩ (by decide) [120] (by decide) false false (HG.out W hW)
    rw [ex_enc] at this
    exact this
  have HFLD : Hid (∀ W B, W.cell? ⟨B, 0, none⟩ = some (.string ⟨#[72, 111, 115, 116]⟩) → W.cell? ⟨B, 1, none⟩ = some (.string ⟨#[104]⟩) → Calls Tryz.prog 24 #[.slice (some ⟨B, 0, none⟩) 1 1, .string ⟨#[104, 111, 115, 116]⟩] W fun e w' => e = .returned (.tuple #[.string ⟨#[104]⟩, .bool true]) ∧ Below W.heap.size W w') := fun W B h0 h1 => by
    have := fieldV_any (fs := [([72, 111, 115, 116], [104])]) (v := .slice (some ⟨B, 0, none⟩) 1 1) (w := W) ⟨some ⟨B, 0, none⟩, 1, rfl, by decide, by decide, fun i f hf => by
      rcases i with _ | i
      · simp at hf
        subst hf
        exact ⟨B, 0, rfl, h0, h1⟩
      · simp at hf⟩ (fun f hf => by simp at hf; subst hf; decide) [104, 111, 115, 116] (by decide)
    rw [ex_field] at this
    exact this
  have HST : Hid (∀ W, Calls Tryz.prog 26 #[.int .i64 81] W fun e w' => e = .returned (.int .i64 404) ∧ w' = W) := fun W => status_any 81 W
  have HRS : Hid (∀ W, Calls Tryz.prog 28 #[.int .i64 404] W fun e w' => e = .returned (.string ⟨#[78, 111, 116, 32, 70, 111, 117, 110, 100]⟩) ∧ w' = W) := fun W => reason_any 404 W
  clear hG
  go_enter Tryz.func10, Tryz.ntmps10
  go_wp2_with fail
  refine (HNW.out w (Below.refl _ _)).mono ?_
  rintro e w1 ⟨rfl, r1, b1⟩
  have HFA := Lib.hid (feed_any exA r1 rsZ_wf (by decide))
  have WA := Lib.hid (feed_wf exA rsZ 0 rsZ_wf)
  rw [ex_A.1] at HFA
  have HEA := Lib.hid ex_A.2
  have HEB := Lib.hid ex_B
  generalize (rsZ.feed exA).1 = sA at *
  have HFB := Lib.hid (fun (W : World) (ms : Own) (h : RdrAt W w.heap.size ms sA []) => feed_any exB h WA.out (by decide))
  have WB := Lib.hid (feed_wf exB sA _ WA.out)
  rw [HEB.out.1] at HFB
  have HEB2 := Lib.hid HEB.out.2
  generalize (sA.feed exB).1 = sB at *
  have B1 := Lib.hid b1
  clear r1 b1
  go_wp2_with fail
  refine HFA.out.mono ?_
  rintro e w2 ⟨v2, msA, KA, rfl, r2, m2, ⟨xsA, pA, _, _⟩, _, _⟩
  obtain ⟨aA, cA, rfl⟩ := row_form pA
  have B2 : Hid (Below w.heap.size w w2) := B1.out.trans (m2.below B1.out.size fun b hb => by rw [hb]; exact Nat.le_refl _)
  have LA : Hid (∀ b, msA b → w.heap.size ≤ b) := fun b hb => by
    rcases m2.new b hb with h | h
    · rw [h]; exact Nat.le_refl _
    · exact Nat.le_trans B1.out.size h
  have HHA := Lib.hid (held_any r2 WA.out (by decide))
  have R2 := Lib.hid r2
  clear r2 m2 pA HFA
  go_wp2_with fail
  refine HHA.out.mono ?_
  rintro e w3 ⟨rfl, n3, rfl⟩
  rw [HEA.out]
  have R3 := Lib.hid (R2.out.later (belowDrewN (Below.refl _ _) n3))
  have B3 := Lib.hid (belowDrewN B2.out n3)
  clear B2 R2 HHA
  generalize w2.drewN n3 = w3 at R3 B3 ⊢
  have HF4 := Lib.hid (HFB.out w3 msA R3.out)
  go_wp2_with fail
  refine HF4.out.mono ?_
  rintro e w4 ⟨v4, msB, KB, rfl, r4, m4, q4, _, _⟩
  obtain ⟨g, c4, vf, rfl, k0, k1, k2, k3, k4, k5, kf, _⟩ := q4.at (i := 0) (q := exReq) rfl
  obtain ⟨af, cf, rfl, hcf, _, hpf⟩ := pairs_own kf (by decide)
  obtain ⟨gf, of, rfl, _, _⟩ := hpf 0 _ rfl
  obtain ⟨gf', of', hq, kn, _⟩ := hpf 1 (longL, [51]) rfl
  injection hq with hq
  injection hq with hq1 hq2 _
  subst hq1 hq2
  have B4 : Hid (Below w.heap.size w w4) := B3.out.trans (m4.below B3.out.size LA.out)
  have R4 := Lib.hid r4
  have N4 : Hid (w4.cell? ⟨gf, of + 1 * 2, none⟩ = some (.string ⟨#[99, 111, 110, 116, 101, 110, 116, 45, 108, 101, 110, 103, 116, 104]⟩)) := kn
  have C1 : Hid (w4.cell? ⟨g, 1, none⟩ = some (.string ⟨#[47, 97]⟩)) := k1
  have C4 : Hid (w4.cell? ⟨g, 4, none⟩ = some (.string ⟨#[97, 98, 99]⟩)) := k4
  have C3 : Hid (w4.cell? ⟨g, 3, none⟩ = some (.slice (some ⟨gf, of, none⟩) 2 cf)) := k3
  clear r4 m4 q4 k0 k1 k2 k3 k4 k5 kf hpf kn HF4 R3 B3 LA
  have hg1 : ([exReq] : List ReqV).length = 1 := rfl
  rw [hg1]
  go_wp2_with fail
  refine (HNW.out w4 B4.out).mono ?_
  rintro e w5 ⟨rfl, r5, b5⟩
  have HFC := Lib.hid (feed_any exC r5 rsZ_wf (by decide))
  rw [ex_C.1] at HFC
  have HEC := Lib.hid ex_C.2
  generalize (rsZ.feed exC).1 = sC at *
  have B5 := Lib.hid b5
  clear r5 b5
  go_wp2_with fail
  refine HFC.out.mono ?_
  rintro e w6 ⟨v6, msC, KC, rfl, r6, m6, ⟨xsC, pC, _, _⟩, _, _⟩
  obtain ⟨aC, cC, rfl⟩ := row_form pC
  have B46 : Hid (Below w4.heap.size w4 w6) := B5.out.trans (m6.below B5.out.size fun b hb => by rw [hb]; exact Nat.le_refl _)
  have B6 : Hid (Below w.heap.size w w6) := B4.out.trans (B46.out.mono B4.out.size)
  have R6 := Lib.hid r6
  clear r6 m6 pC HFC B5
  go_wp2_with fail
  refine (HENC.out w6 B6.out).mono ?_
  rintro e w7 ⟨rfl, b7⟩
  have B47 : Hid (Below w4.heap.size w4 w7) := B46.out.trans (b7.mono B46.out.size)
  have B7 : Hid (Below w.heap.size w w7) := B6.out.trans (b7.mono B6.out.size)
  have R7 := Lib.hid (R6.out.later b7)
  clear b7 B46 B6 R6 HENC
  have hF := HFLD.out (w7.alloc (.cells #[.string ⟨#[72, 111, 115, 116]⟩, .string ⟨#[104]⟩] 58)) w7.heap.size (cell_new _ _ _ _ _ _ rfl rfl) (cell_new _ _ _ _ _ _ rfl rfl)
  have HF := Lib.hid hF
  clear hF
  go_wp2_with fail
  refine HF.out.mono ?_
  rintro e w8 ⟨rfl, b8⟩
  have bx : Below w7.heap.size w7 w8 := (below_alloc (Below.refl _ _) (Nat.le_refl _) _).trans (b8.mono (by simp))
  have B48 : Hid (Below w4.heap.size w4 w8) := B47.out.trans (bx.mono B47.out.size)
  have B8 : Hid (Below w.heap.size w w8) := B7.out.trans (bx.mono B7.out.size)
  have R8 := Lib.hid (R7.out.later bx)
  have R48 := Lib.hid (R4.out.later B48.out)
  have n8 : w8.cell? ⟨gf, of + 1 * 2, none⟩ = some (.string ⟨#[99, 111, 110, 116, 101, 110, 116, 45, 108, 101, 110, 103, 116, 104]⟩) := cell_later B48.out N4.out
  have n8' : w8.cell? ⟨gf, of + 2, none⟩ = some (.string ⟨#[99, 111, 110, 116, 101, 110, 116, 45, 108, 101, 110, 103, 116, 104]⟩) := n8
  have c1 := cell_later B48.out C1.out
  have c3 := cell_later B48.out C3.out
  have c4 := cell_later B48.out C4.out
  clear b8 bx B47 B7 R7 R4 HF HFLD
  have HHB := Lib.hid (held_any R48.out WB.out (by decide))
  rw [HEB2.out] at HHB
  go_wp2_with fail
  refine HHB.out.mono ?_
  rintro e w9 ⟨rfl, n9, rfl⟩
  have R9 := Lib.hid (R8.out.later (belowDrewN (Below.refl _ _) n9))
  have B9 := Lib.hid (belowDrewN B8.out n9)
  clear n8 n8' c1 c3 c4 R8 B8 R48 HHB B48
  generalize w8.drewN n9 = w9 at R9 B9 ⊢
  have HFT := Lib.hid (fault_any R9.out)
  have HDN := Lib.hid (done_any R9.out)
  rw [HEC.out.1] at HFT
  rw [HEC.out.2] at HDN
  go_wp2_with (first
    | (go_at_call 15; refine HFT.out.mono ?_; rintro e w' ⟨rfl, rfl⟩)
    | (go_at_call 14; refine HDN.out.mono ?_; rintro e w' ⟨rfl, rfl⟩)
    | (go_at_call 26; refine (HST.out _).mono ?_; rintro e w' ⟨rfl, rfl⟩)
    | (go_at_call 28; refine (HRS.out _).mono ?_; rintro e w' ⟨rfl, rfl⟩))
  go_ret
  exact ⟨rfl, B9.out⟩

end Go.Proofs.YtdilmefeofdkmaaGreatDoor
