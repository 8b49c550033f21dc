/-
  storehouseref19.ReadKey: the walk at a version's key. (Printed by wip/gen/mkreadkey.py.)
-/
import Derived.Test.YtajmkkjlhmeolaaGreatDoorMkRkKit
namespace Go.Proofs.YtajmkkjlhmeolaaGreatDoor
open Go.RowKit Go.Lib

set_option maxHeartbeats 8000000 in
set_option maxRecDepth 100000 in
theorem rReadKey_v (rest : List UInt8) (hs : rest.length ≤ 140737488351230) (w : World) : Calls Tryz.prog 17 #[.string ⟨(118 :: 47 :: rest).toArray⟩] w (PlaceOut (rTry (118 :: 47 :: rest) (rCand 118 rest)) w) := by
  obtain ⟨s, hsr⟩ : ∃ s, 118 :: 47 :: rest = s := ⟨_, rfl⟩
  have h110b : (s == [110]) = false := by rw [beq_eq_false_iff_ne, ← hsr]; simp
  rw [hsr]
  obtain ⟨res, hres⟩ : ∃ r, Hid (rTry s (rCand 118 rest) = r) := ⟨_, rfl⟩
  rw [hres.out]
  have HR : Hid (res = rTry s (rCand 118 rest)) := hres.out.symm
  clear hres
  have hsz : (⟨s.toArray⟩ : ByteArray).size = s.length := by simp [ByteArray.size]
  have hrl : rest.length + 2 = s.length := by rw [← hsr]; simp
  have hb0 : (⟨s.toArray⟩ : ByteArray)[0]'(by rw [hsz]; omega) = 118 := by simp [ByteArray.getElem_eq_getElem_data, ← hsr]
  have hb1 : (⟨s.toArray⟩ : ByteArray)[1]'(by rw [hsz]; omega) = 47 := by simp [ByteArray.getElem_eq_getElem_data, ← hsr]
  have hbr : (⟨s.toArray⟩ : ByteArray).extract 2 s.length = ⟨rest.toArray⟩ := by
    have := extractL_drop s 2
    rw [this, ← hsr]; rfl
  have h2z : ¬ (s.length : Int) < 2 := by omega
  clear hsr
  have hf := cut_first rest
  obtain ⟨L, hL⟩ : ∃ L, (cut1 rest 47).1.length = L := ⟨_, rfl⟩
  have HCD : Hid (rCand 118 rest = if L + 17 < rest.length ∧ rest[rest.length - 17]? = some 47 then some ⟨118, rest.take L, (rest.take (rest.length - 17)).drop (L + 1), (readNum (rest.drop (rest.length - 16))).getD 0, 0⟩ else none) := by show _ = _; rw [← hL]; rfl
  rw [hL] at hf
  obtain ⟨hL1, hL2, hL3⟩ := hf
  clear hL
  have hbs : (⟨rest.toArray⟩ : ByteArray).size = rest.length := by simp [ByteArray.size]
  have hbg : ∀ j (h : j < rest.length), (⟨rest.toArray⟩ : ByteArray)[j]'(by rw [hbs]; exact h) = rest[j] := by intro j h; simp [ByteArray.getElem_eq_getElem_data]
  have h47 : ∀ c : UInt8, (c.toNat : Int) = 47 → c = 47 := fun c h => UInt8.toNat_inj.1 (by have : (47 : UInt8).toNat = 47 := rfl; omega)
  have HL2 := Lib.hid hL2
  have HL3 := Lib.hid hL3
  have HBG := Lib.hid hbg
  have H47 := Lib.hid h47
  clear hL2 hL3 hbg h47
  go_enter Tryz.func17, Tryz.ntmps17
  go_wp2
  clear hsz hb0 hb1 hbr h2z
  go_loopg [7] rest.length (fun gg s7 wr => ∃ (i : Nat), i ≤ L ∧ rest.length - i ≤ gg ∧ s7 = .int .i64 i ∧ Hid (RqAt w wr #[.int .u8 118, .string ⟨#[]⟩, .string ⟨#[]⟩, .int .i64 0, .int .i64 0]))
  case atStart => exact ⟨0, by omega, by omega, rfl, ⟨by first | exact heap_at1 _ _ _ | simp, by first | exact (Below.heap_alloc _ _ _ (by simp)).trans (heap_alloc_new _ _) | simp, (by repeat (first | exact Below.refl _ _ | assumption | (refine belowDrewN ?_ _) | (refine Below.alloc ?_ (by first | (simp; done) | (simp; omega) | omega) _) | (refine Below.setCell ?_ (by first | (simp; done) | (simp; omega) | omega) _)))⟩⟩
  case round =>
    obtain ⟨i, hi, hgg, rfl, K1⟩ := hrel
    by_cases hlt : i < L
    · have hl : i < rest.length := by omega
      have hlz : (i : Int) < (rest.length : Int) := by omega
      have hx : ((((⟨rest.toArray⟩ : ByteArray)[i]'(by rw [hbs]; exact hl)).toNat : Int) != 47) = true := by
        rw [bne_iff_ne, HBG.out i hl]
        intro h
        exact HL2.out i hl hlt (H47.out _ h)
      go_wp2
      go_roundg (rest.length - (i + 1))
      case measure => omega
      case rel => exact ⟨i + 1, by omega, Nat.le_refl _, by go_num, K1⟩
    · obtain rfl : i = L := by omega
      by_cases hle : i < rest.length
      · have hlz : (i : Int) < (rest.length : Int) := by omega
        have hx : ((((⟨rest.toArray⟩ : ByteArray)[i]'(by rw [hbs]; exact hle)).toNat : Int) != 47) = false := by
          rw [bne_eq_false_iff_eq, HBG.out i hle, HL3.out hle]; rfl
        by_cases h17 : i + 17 < rest.length
        · obtain ⟨j, hj⟩ : ∃ j, rest.length = j + 17 := ⟨rest.length - 17, by omega⟩
          have hjz : (rest.length : Int) - 17 = (j : Int) := by omega
          have hij : (i : Int) < (j : Int) := by omega
          have hjn : j < rest.length := by omega
          have hjl : (j : Int) < (rest.length : Int) := by omega
          by_cases h47 : rest[j] = 47
          · have hy : ((((⟨rest.toArray⟩ : ByteArray)[j]'(by rw [hbs]; exact hjn)).toNat : Int) == 47) = true := by
              rw [beq_iff_eq, HBG.out j hjn, h47]; rfl
            obtain ⟨n, hn, hnn⟩ : ∃ n, (readNum (rest.drop (j + 1))).getD 0 = n ∧ IntOK n := ⟨_, rfl, readNum_getD _⟩
            have HR2 : Hid (res = rTry s (some ⟨118, rest.take i, (rest.take j).drop (i + 1), n, 0⟩)) := by
              show _ = _
              rw [HR.out, HCD.out, if_pos ⟨h17, by rw [hj, show j + 17 - 17 = j by omega, List.getElem?_eq_getElem hjn, h47]⟩, hj, show j + 17 - 17 = j by omega, show j + 17 - 16 = j + 1 by omega, hn]
            have HR := HR2
            clear HR2 HCD
            unfold rTry at HR
            simp only at HR
            have p1 : (i : Int) + 1 ≤ (j : Int) := by omega
            have p2 : (j : Int) + 1 ≤ (rest.length : Int) := by omega
            have p3 : (0 : Int) ≤ (i : Int) + 1 := by omega
            have p4 : (0 : Int) ≤ (j : Int) + 1 := by omega
            have p5 : (i : Int) ≤ (rest.length : Int) := by omega
            have x1 : Value.string ((⟨rest.toArray⟩ : ByteArray).extract 0 i) = .string ⟨(rest.take i).toArray⟩ := by
              congr 1; apply ByteArray.ext; apply Array.toList_inj.1; rw [Lib.extract_data]; simp
            have x2 : Value.string ((⟨rest.toArray⟩ : ByteArray).extract (i + 1) j) = .string ⟨((rest.take j).drop (i + 1)).toArray⟩ := by
              congr 1; apply ByteArray.ext; apply Array.toList_inj.1; rw [Lib.extract_data]; simp [List.drop_take]
            have x3 : Value.string ((⟨rest.toArray⟩ : ByteArray).extract (j + 1) (j + 17)) = .string ⟨(rest.drop (j + 1)).toArray⟩ := by
              congr 1; apply ByteArray.ext; apply Array.toList_inj.1; rw [Lib.extract_data]; exact List.take_of_length_le (by simp; omega)
            go_wp2_with (first
              | (refine wpList_place_store (w0 := w) (by rfl) 9 _ _ (by rfl) 1 _ (.string ⟨(rest.take i).toArray⟩) (by rfl) (by rfl) (by first | rfl | assumption) (by rfl) _ (by exact K1.out) (by simp) (by kernel_rfl) (.int .u8 118) (.string ⟨(rest.take i).toArray⟩) (.string ⟨#[]⟩) (.int .i64 0) (.int .i64 0) (by rfl) (fun w3 K3 q1 q2 q3 q4 => ?_))
              | (refine wpList_place_store (w0 := w) (by rfl) 9 _ _ (by rfl) 2 _ (.string ⟨((rest.take j).drop (i + 1)).toArray⟩) (by rfl) (by rfl) (by first | rfl | assumption) (by rfl) _ (by exact (by assumption)) (by simp) (by kernel_rfl) (.int .u8 118) (.string ⟨(rest.take i).toArray⟩) (.string ⟨((rest.take j).drop (i + 1)).toArray⟩) (.int .i64 0) (.int .i64 0) (by rfl) (fun w4 K4 q1 q2 q3 q4 => ?_)))
            refine Calls.mono (rReadNumberB (rest.drop (j + 1)) (by simp; omega) _) ?_
            rintro e w5 ⟨rfl, hb⟩
            have Kw5 : Hid (RqAt w w5 #[.int .u8 118, .string ⟨(rest.take i).toArray⟩, .string ⟨((rest.take j).drop (i + 1)).toArray⟩, .int .i64 0, .int .i64 0]) := Lib.hid (RqAt.later K4 hb)
            clear hb
            rw [hn]
            clear hn
            go_wp2_with (refine wpList_place_store (w0 := w) (by rfl) 3 _ _ (by rfl) 3 _ (.int .i64 n) (by rfl) (by rfl) (by first | rfl | assumption) (by rfl) _ (by exact Kw5.out) (by simp) (by kernel_rfl) (.int .u8 118) (.string ⟨(rest.take i).toArray⟩) (.string ⟨((rest.take j).drop (i + 1)).toArray⟩) (.int .i64 n) (.int .i64 0) (by rfl) (fun w6 K6 q1 q2 q3 q4 => ?_))
            refine Calls.mono (rVersionKeyB (rest.take i) ((rest.take j).drop (i + 1)) n (by simp; omega) (by simp; omega) hnn _) ?_
            rintro e w7 ⟨rfl, hb⟩
            have K5 : Hid (RqAt w w7 #[.int .u8 118, .string ⟨(rest.take i).toArray⟩, .string ⟨((rest.take j).drop (i + 1)).toArray⟩, .int .i64 n, .int .i64 0]) := Lib.hid (RqAt.later K6 hb)
            clear hb
            have HX := Lib.hid K5.out.x
            have HZ5 := Lib.hid K5.out.z
            have B5 := Lib.hid K5.out.b
            obtain ⟨R, hRR⟩ : ∃ R, Hid (placeKeyL ⟨118, rest.take i, (rest.take j).drop (i + 1), n, 0⟩ = R) := ⟨_, rfl⟩
            have hRR' : versionKeyL (rest.take i) ((rest.take j).drop (i + 1)) n = R := hRR.out
            rw [hRR']
            rw [hRR.out] at HR
            clear hRR'
            cases R with
            | nil =>
              have HF : Hid (res = none) := by show _ = _; rw [HR.out]; exact if_neg (fun h => h.1 rfl)
              go_wp2_with (refine wpList_store_row (by rfl) 34 _ _ (by rfl) w.heap.size placeZero (by rfl) (by rfl) 34 _ (by exact K5.out.z) (by kernel_rfl) (by kernel_rfl) (by kernel_rfl) ?_)
              refine bodyPost_ret (results_cell_tmp rfl _ _ w.heap.size 34 _ _ rfl (setRow_heap _ _ _ _ _ _ K5.out.z) Tryz.underlying34 rfl (by kernel_rfl)) rfl ?_
              rw [HF.out]
              exact ⟨rfl, below_one_row _ _ _ _ _ K5.out.b (Nat.le_refl _)⟩
            | cons r0 rr =>
              cases hq : (r0 :: rr == s)
              · have HF : Hid (res = none) := by show _ = _; rw [HR.out]; exact if_neg (fun h => by rw [beq_eq_false_iff_ne] at hq; exact hq h.2)
                go_wp2_with (refine wpList_store_row (by rfl) 34 _ _ (by rfl) w.heap.size placeZero (by rfl) (by rfl) 34 _ (by exact K5.out.z) (by kernel_rfl) (by kernel_rfl) (by kernel_rfl) ?_)
                refine bodyPost_ret (results_cell_tmp rfl _ _ w.heap.size 34 _ _ rfl (setRow_heap _ _ _ _ _ _ K5.out.z) Tryz.underlying34 rfl (by kernel_rfl)) rfl ?_
                rw [HF.out]
                exact ⟨rfl, below_one_row _ _ _ _ _ K5.out.b (Nat.le_refl _)⟩
              · have HF : Hid (res = some ⟨118, rest.take i, (rest.take j).drop (i + 1), n, 0⟩) := by show _ = _; rw [HR.out]; exact if_pos ⟨by simp, beq_iff_eq.1 hq⟩
                go_wp2_with (first
                  | (refine wpList_load_row (by rfl) 34 _ (by rfl) (w.heap.size + 1) (by rfl) 34 _ (0, 0) _ (by exact HX.out) Tryz.underlying34 rfl (by kernel_rfl) ?_)
                  | (refine wpList_store_row (by rfl) 34 _ _ (by rfl) w.heap.size _ (by rfl) (by rfl) 34 _ (by exact HZ5.out) (by kernel_rfl) (by kernel_rfl) (by kernel_rfl) ?_))
                refine bodyPost_ret (results_cell_tmp rfl _ _ w.heap.size 34 _ _ rfl (setRow_heap _ _ _ _ _ _ HZ5.out) Tryz.underlying34 rfl (by kernel_rfl)) rfl ?_
                rw [HF.out]
                exact ⟨rfl, below_one_row _ _ _ _ _ B5.out (Nat.le_refl _)⟩
          · have hy : ((((⟨rest.toArray⟩ : ByteArray)[j]'(by rw [hbs]; exact hjn)).toNat : Int) == 47) = false := by
              rw [beq_eq_false_iff_ne, HBG.out j hjn]
              intro h
              exact h47 (H47.out _ h)
            have HF : Hid (res = none) := by
              show _ = _
              rw [HR.out, HCD.out, if_neg (fun h => by have := h.2; rw [hj, show j + 17 - 17 = j by omega, List.getElem?_eq_getElem hjn] at this; exact h47 (Option.some.inj this))]; rfl
            clear HCD HR
            go_wp2_with (refine wpList_store_row (by rfl) 34 _ _ (by rfl) w.heap.size placeZero (by rfl) (by rfl) 34 _ (by exact K1.out.z) (by kernel_rfl) (by kernel_rfl) (by kernel_rfl) ?_)
            refine bodyPost_ret (results_cell_tmp rfl _ _ w.heap.size 34 _ _ rfl (setRow_heap _ _ _ _ _ _ K1.out.z) Tryz.underlying34 rfl (by kernel_rfl)) rfl ?_
            rw [HF.out]
            exact ⟨rfl, below_one_row _ _ _ _ _ K1.out.b (Nat.le_refl _)⟩
        · have hF : ¬ (i : Int) < (rest.length : Int) - 17 := by omega
          have HF : Hid (res = none) := by
            show _ = _
            rw [HR.out, HCD.out, if_neg (fun h => h17 h.1)]; rfl
          clear HCD HR
          go_wp2_with (refine wpList_store_row (by rfl) 34 _ _ (by rfl) w.heap.size placeZero (by rfl) (by rfl) 34 _ (by exact K1.out.z) (by kernel_rfl) (by kernel_rfl) (by kernel_rfl) ?_)
          refine bodyPost_ret (results_cell_tmp rfl _ _ w.heap.size 34 _ _ rfl (setRow_heap _ _ _ _ _ _ K1.out.z) Tryz.underlying34 rfl (by kernel_rfl)) rfl ?_
          rw [HF.out]
          exact ⟨rfl, below_one_row _ _ _ _ _ K1.out.b (Nat.le_refl _)⟩
      · obtain rfl : i = rest.length := by omega
        have hF : ¬ (rest.length : Int) < (rest.length : Int) - 17 := by omega
        have HF : Hid (res = none) := by
          show _ = _
          rw [HR.out, HCD.out, if_neg (fun h => by have := h.1; omega)]; rfl
        clear HCD HR
        go_wp2_with (refine wpList_store_row (by rfl) 34 _ _ (by rfl) w.heap.size placeZero (by rfl) (by rfl) 34 _ (by exact K1.out.z) (by kernel_rfl) (by kernel_rfl) (by kernel_rfl) ?_)
        refine bodyPost_ret (results_cell_tmp rfl _ _ w.heap.size 34 _ _ rfl (setRow_heap _ _ _ _ _ _ K1.out.z) Tryz.underlying34 rfl (by kernel_rfl)) rfl ?_
        rw [HF.out]
        exact ⟨rfl, below_one_row _ _ _ _ _ K1.out.b (Nat.le_refl _)⟩

end Go.Proofs.YtajmkkjlhmeolaaGreatDoor
