/-
  storehouseref19.ReadKey: the walk. (Printed by wip/gen/mkreadkey.py.)
-/
import Derived.Test.YtajmkkjlhmeolaaGreatDoorMkReadKeyV
namespace Go.Proofs.YtajmkkjlhmeolaaGreatDoor
open Go.RowKit Go.Lib

set_option maxHeartbeats 8000000 in
set_option maxRecDepth 100000 in
theorem rReadKey_any (s : List UInt8) (hs : s.length ≤ 140737488351232) (w : World) : Calls Tryz.prog 17 #[.string ⟨s.toArray⟩] w (PlaceOut (rPlaceOf s) w) := by
  obtain ⟨res, hres⟩ : ∃ r, Hid (rPlaceOf s = r) := ⟨_, rfl⟩
  rw [hres.out]
  have HZ : Hid ((w.alloc (.cells placeZero 34)).heap[w.heap.size]? = some (.cells placeZero 34 (0, 0))) := heap_alloc_new _ _
  by_cases h110 : s = [110]
  · have HF : Hid (res = some ⟨110, [], [], 0, 0⟩) := by show _ = _; rw [← hres.out]; unfold rPlaceOf; rw [if_pos h110]
    subst h110
    clear hres
    go_enter Tryz.func17, Tryz.ntmps17
    go_wp2_with (refine wpList_store_row (by rfl) 34 _ _ (by rfl) w.heap.size _ (by rfl) (by rfl) 34 _ (by exact HZ.out) (by kernel_rfl) (by kernel_rfl) (by kernel_rfl) ?_)
    refine bodyPost_ret (results_cell_tmp rfl _ _ w.heap.size 34 _ _ rfl (setRow_heap _ _ _ _ _ _ HZ.out) Tryz.underlying34 rfl (by kernel_rfl)) rfl ?_
    rw [HF.out]
    exact ⟨rfl, below_one_row _ _ _ _ _ (below_alloc (Below.refl _ _) (Nat.le_refl _) _) (Nat.le_refl _)⟩
  have h110b : (s == [110]) = false := by rw [beq_eq_false_iff_ne]; exact h110
  have KZ : Hid (RqAt w (w.alloc (.cells placeZero 34)) placeZero → True) := fun _ => trivial
  by_cases h2 : s.length < 2
  · have HF : Hid (res = none) := by
      show _ = _
      rw [← hres.out]; unfold rPlaceOf; rw [if_neg h110]
      rcases s with _ | ⟨k, _ | ⟨c, rest⟩⟩
      · rfl
      · rfl
      · exact absurd h2 (by simp)
    have h2z : (s.length : Int) < 2 := by omega
    clear hres h110
    go_enter Tryz.func17, Tryz.ntmps17
    go_wp2_with (refine wpList_store_row (by rfl) 34 _ _ (by rfl) w.heap.size placeZero (by rfl) (by rfl) 34 _ (by exact HZ.out) (by kernel_rfl) (by kernel_rfl) (by kernel_rfl) ?_)
    refine bodyPost_ret (results_cell_tmp rfl _ _ w.heap.size 34 _ _ rfl (setRow_heap _ _ _ _ _ _ HZ.out) Tryz.underlying34 rfl (by kernel_rfl)) rfl ?_
    rw [HF.out]
    exact ⟨rfl, below_one_row _ _ _ _ _ (below_alloc (Below.refl _ _) (Nat.le_refl _) _) (Nat.le_refl _)⟩
  obtain ⟨k, c, rest, hsr⟩ : ∃ k c rest, s = k :: c :: rest := by
    match s, h2 with
    | k :: c :: rest, _ => exact ⟨k, c, rest, rfl⟩
    | [_], h => simp at h
    | [], h => simp at h
  have hsz : (⟨s.toArray⟩ : ByteArray).size = s.length := by simp [ByteArray.size]
  have hb0 : (⟨s.toArray⟩ : ByteArray)[0]'(by rw [hsz]; omega) = k := by simp [ByteArray.getElem_eq_getElem_data, hsr]
  have hb1 : (⟨s.toArray⟩ : ByteArray)[1]'(by rw [hsz]; omega) = c := by simp [ByteArray.getElem_eq_getElem_data, hsr]
  have hbr : (⟨s.toArray⟩ : ByteArray).extract 2 s.length = ⟨rest.toArray⟩ := by
    have := extractL_drop s 2
    rw [this, hsr]; rfl
  have h2z : ¬ (s.length : Int) < 2 := by omega
  have hrl : rest.length + 2 = s.length := by rw [hsr]; simp
  by_cases hc : c = 47
  · subst hc
    have HR : Hid (res = rTry s (rCand k rest)) := by
      show _ = _
      rw [← hres.out]; unfold rPlaceOf; rw [if_neg h110, hsr]
      exact if_pos rfl
    have HSR := Lib.hid hsr
    clear hres h110 hsr
    by_cases hk98 : k = 98
    · subst hk98
      have HCD : Hid (rCand 98 rest = some ⟨98, rest, [], 0, 0⟩) := rfl
      rw [HCD.out] at HR
      clear HCD
      unfold rTry at HR
      simp only at HR
      go_enter Tryz.func17, Tryz.ntmps17
      go_wp2_with fail
      refine Calls.mono (rBucketKeyB rest (by omega) _) ?_
      rintro e w5 ⟨rfl, hb⟩
      have K5 : Hid (RqAt w w5 #[.int .u8 98, .string ⟨rest.toArray⟩, .string ⟨#[]⟩, .int .i64 0, .int .i64 0]) := Lib.hid (RqAt.later ⟨by first | exact heap_at1 _ _ _ | simp, by first | exact (Below.heap_alloc _ _ _ (by simp)).trans (heap_alloc_new _ _) | simp, (by repeat (first | exact Below.refl _ _ | assumption | (refine belowDrewN ?_ _) | (refine Below.alloc ?_ (by first | (simp; done) | (simp; omega) | omega) _) | (refine Below.setCell ?_ (by first | (simp; done) | (simp; omega) | omega) _)))⟩ hb)
      clear hb
      have HX := Lib.hid K5.out.x
      have HZ5 := Lib.hid K5.out.z
      have B5 := Lib.hid K5.out.b
      obtain ⟨R, hRR⟩ : ∃ R, Hid (placeKeyL ⟨98, rest, [], 0, 0⟩ = R) := ⟨_, rfl⟩
      have hRR' : bucketKeyL rest = R := hRR.out
      rw [hRR']
      rw [hRR.out] at HR
      clear hRR'
      cases R with
      | nil =>
        have HF : Hid (res = none) := by show _ = _; rw [HR.out]; exact if_neg (fun h => h.1 rfl)
        go_wp2_with (refine wpList_store_row (by rfl) 34 _ _ (by rfl) w.heap.size placeZero (by rfl) (by rfl) 34 _ (by exact K5.out.z) (by kernel_rfl) (by kernel_rfl) (by kernel_rfl) ?_)
        refine bodyPost_ret (results_cell_tmp rfl _ _ w.heap.size 34 _ _ rfl (setRow_heap _ _ _ _ _ _ K5.out.z) Tryz.underlying34 rfl (by kernel_rfl)) rfl ?_
        rw [HF.out]
        exact ⟨rfl, below_one_row _ _ _ _ _ K5.out.b (Nat.le_refl _)⟩
      | cons r0 rr =>
        cases hq : (r0 :: rr == s)
        · have HF : Hid (res = none) := by show _ = _; rw [HR.out]; exact if_neg (fun h => by rw [beq_eq_false_iff_ne] at hq; exact hq h.2)
          go_wp2_with (refine wpList_store_row (by rfl) 34 _ _ (by rfl) w.heap.size placeZero (by rfl) (by rfl) 34 _ (by exact K5.out.z) (by kernel_rfl) (by kernel_rfl) (by kernel_rfl) ?_)
          refine bodyPost_ret (results_cell_tmp rfl _ _ w.heap.size 34 _ _ rfl (setRow_heap _ _ _ _ _ _ K5.out.z) Tryz.underlying34 rfl (by kernel_rfl)) rfl ?_
          rw [HF.out]
          exact ⟨rfl, below_one_row _ _ _ _ _ K5.out.b (Nat.le_refl _)⟩
        · have HF : Hid (res = some ⟨98, rest, [], 0, 0⟩) := by show _ = _; rw [HR.out]; exact if_pos ⟨by simp, beq_iff_eq.1 hq⟩
          go_wp2_with (first
            | (refine wpList_load_row (by rfl) 34 _ (by rfl) (w.heap.size + 1) (by rfl) 34 _ (0, 0) _ (by exact HX.out) Tryz.underlying34 rfl (by kernel_rfl) ?_)
            | (refine wpList_store_row (by rfl) 34 _ _ (by rfl) w.heap.size _ (by rfl) (by rfl) 34 _ (by exact HZ5.out) (by kernel_rfl) (by kernel_rfl) (by kernel_rfl) ?_))
          refine bodyPost_ret (results_cell_tmp rfl _ _ w.heap.size 34 _ _ rfl (setRow_heap _ _ _ _ _ _ HZ5.out) Tryz.underlying34 rfl (by kernel_rfl)) rfl ?_
          rw [HF.out]
          exact ⟨rfl, below_one_row _ _ _ _ _ B5.out (Nat.le_refl _)⟩
    by_cases hk117 : k = 117
    · subst hk117
      obtain ⟨n, hn, hnn⟩ : ∃ n, (readNum rest).getD 0 = n ∧ IntOK n := ⟨_, rfl, readNum_getD rest⟩
      have HCD : Hid (rCand 117 rest = some ⟨117, [], [], n, 0⟩) := by show _ = _; rw [← hn]; rfl
      rw [HCD.out] at HR
      clear HCD
      unfold rTry at HR
      simp only at HR
      go_enter Tryz.func17, Tryz.ntmps17
      go_wp2_with fail
      refine Calls.mono (rReadNumberB rest (by omega) _) ?_
      rintro e w2 ⟨rfl, hb⟩
      have Kw2 : Hid (RqAt w w2 #[.int .u8 117, .string ⟨#[]⟩, .string ⟨#[]⟩, .int .i64 0, .int .i64 0]) := Lib.hid (RqAt.later ⟨by first | exact heap_at1 _ _ _ | simp, by first | exact (Below.heap_alloc _ _ _ (by simp)).trans (heap_alloc_new _ _) | simp, (by repeat (first | exact Below.refl _ _ | assumption | (refine belowDrewN ?_ _) | (refine Below.alloc ?_ (by first | (simp; done) | (simp; omega) | omega) _) | (refine Below.setCell ?_ (by first | (simp; done) | (simp; omega) | omega) _)))⟩ hb)
      clear hb
      rw [hn]
      clear hn
      go_wp2_with (refine wpList_place_store (w0 := w) (by rfl) 3 _ _ (by rfl) 3 _ (.int .i64 n) (by rfl) (by rfl) (by first | rfl | assumption) (by rfl) _ (by exact Kw2.out) (by simp) (by kernel_rfl) (.int .u8 117) (.string ⟨#[]⟩) (.string ⟨#[]⟩) (.int .i64 n) (.int .i64 0) (by rfl) (fun w3 K3 q1 q2 q3 q4 => ?_))
      refine Calls.mono (rUploadKeyB n hnn _) ?_
      rintro e w5 ⟨rfl, hb⟩
      have K5 : Hid (RqAt w w5 #[.int .u8 117, .string ⟨#[]⟩, .string ⟨#[]⟩, .int .i64 n, .int .i64 0]) := Lib.hid (RqAt.later K3 hb)
      clear hb
      have HX := Lib.hid K5.out.x
      have HZ5 := Lib.hid K5.out.z
      have B5 := Lib.hid K5.out.b
      obtain ⟨R, hRR⟩ : ∃ R, Hid (placeKeyL ⟨117, [], [], n, 0⟩ = R) := ⟨_, rfl⟩
      have hRR' : keyL [117, 47] n = R := hRR.out
      rw [hRR']
      rw [hRR.out] at HR
      clear hRR'
      cases R with
      | nil =>
        have HF : Hid (res = none) := by show _ = _; rw [HR.out]; exact if_neg (fun h => h.1 rfl)
        go_wp2_with (refine wpList_store_row (by rfl) 34 _ _ (by rfl) w.heap.size placeZero (by rfl) (by rfl) 34 _ (by exact K5.out.z) (by kernel_rfl) (by kernel_rfl) (by kernel_rfl) ?_)
        refine bodyPost_ret (results_cell_tmp rfl _ _ w.heap.size 34 _ _ rfl (setRow_heap _ _ _ _ _ _ K5.out.z) Tryz.underlying34 rfl (by kernel_rfl)) rfl ?_
        rw [HF.out]
        exact ⟨rfl, below_one_row _ _ _ _ _ K5.out.b (Nat.le_refl _)⟩
      | cons r0 rr =>
        cases hq : (r0 :: rr == s)
        · have HF : Hid (res = none) := by show _ = _; rw [HR.out]; exact if_neg (fun h => by rw [beq_eq_false_iff_ne] at hq; exact hq h.2)
          go_wp2_with (refine wpList_store_row (by rfl) 34 _ _ (by rfl) w.heap.size placeZero (by rfl) (by rfl) 34 _ (by exact K5.out.z) (by kernel_rfl) (by kernel_rfl) (by kernel_rfl) ?_)
          refine bodyPost_ret (results_cell_tmp rfl _ _ w.heap.size 34 _ _ rfl (setRow_heap _ _ _ _ _ _ K5.out.z) Tryz.underlying34 rfl (by kernel_rfl)) rfl ?_
          rw [HF.out]
          exact ⟨rfl, below_one_row _ _ _ _ _ K5.out.b (Nat.le_refl _)⟩
        · have HF : Hid (res = some ⟨117, [], [], n, 0⟩) := by show _ = _; rw [HR.out]; exact if_pos ⟨by simp, beq_iff_eq.1 hq⟩
          go_wp2_with (first
            | (refine wpList_load_row (by rfl) 34 _ (by rfl) (w.heap.size + 1) (by rfl) 34 _ (0, 0) _ (by exact HX.out) Tryz.underlying34 rfl (by kernel_rfl) ?_)
            | (refine wpList_store_row (by rfl) 34 _ _ (by rfl) w.heap.size _ (by rfl) (by rfl) 34 _ (by exact HZ5.out) (by kernel_rfl) (by kernel_rfl) (by kernel_rfl) ?_))
          refine bodyPost_ret (results_cell_tmp rfl _ _ w.heap.size 34 _ _ rfl (setRow_heap _ _ _ _ _ _ HZ5.out) Tryz.underlying34 rfl (by kernel_rfl)) rfl ?_
          rw [HF.out]
          exact ⟨rfl, below_one_row _ _ _ _ _ B5.out (Nat.le_refl _)⟩
    by_cases hk100 : k = 100
    · subst hk100
      obtain ⟨n, hn, hnn⟩ : ∃ n, (readNum rest).getD 0 = n ∧ IntOK n := ⟨_, rfl, readNum_getD rest⟩
      have HCD : Hid (rCand 100 rest = some ⟨100, [], [], n, 0⟩) := by show _ = _; rw [← hn]; rfl
      rw [HCD.out] at HR
      clear HCD
      unfold rTry at HR
      simp only at HR
      go_enter Tryz.func17, Tryz.ntmps17
      go_wp2_with fail
      refine Calls.mono (rReadNumberB rest (by omega) _) ?_
      rintro e w2 ⟨rfl, hb⟩
      have Kw2 : Hid (RqAt w w2 #[.int .u8 100, .string ⟨#[]⟩, .string ⟨#[]⟩, .int .i64 0, .int .i64 0]) := Lib.hid (RqAt.later ⟨by first | exact heap_at1 _ _ _ | simp, by first | exact (Below.heap_alloc _ _ _ (by simp)).trans (heap_alloc_new _ _) | simp, (by repeat (first | exact Below.refl _ _ | assumption | (refine belowDrewN ?_ _) | (refine Below.alloc ?_ (by first | (simp; done) | (simp; omega) | omega) _) | (refine Below.setCell ?_ (by first | (simp; done) | (simp; omega) | omega) _)))⟩ hb)
      clear hb
      rw [hn]
      clear hn
      go_wp2_with (refine wpList_place_store (w0 := w) (by rfl) 3 _ _ (by rfl) 3 _ (.int .i64 n) (by rfl) (by rfl) (by first | rfl | assumption) (by rfl) _ (by exact Kw2.out) (by simp) (by kernel_rfl) (.int .u8 100) (.string ⟨#[]⟩) (.string ⟨#[]⟩) (.int .i64 n) (.int .i64 0) (by rfl) (fun w3 K3 q1 q2 q3 q4 => ?_))
      refine Calls.mono (rBlobKeyB n hnn _) ?_
      rintro e w5 ⟨rfl, hb⟩
      have K5 : Hid (RqAt w w5 #[.int .u8 100, .string ⟨#[]⟩, .string ⟨#[]⟩, .int .i64 n, .int .i64 0]) := Lib.hid (RqAt.later K3 hb)
      clear hb
      have HX := Lib.hid K5.out.x
      have HZ5 := Lib.hid K5.out.z
      have B5 := Lib.hid K5.out.b
      obtain ⟨R, hRR⟩ : ∃ R, Hid (placeKeyL ⟨100, [], [], n, 0⟩ = R) := ⟨_, rfl⟩
      have hRR' : keyL [100, 47] n = R := hRR.out
      rw [hRR']
      rw [hRR.out] at HR
      clear hRR'
      cases R with
      | nil =>
        have HF : Hid (res = none) := by show _ = _; rw [HR.out]; exact if_neg (fun h => h.1 rfl)
        go_wp2_with (refine wpList_store_row (by rfl) 34 _ _ (by rfl) w.heap.size placeZero (by rfl) (by rfl) 34 _ (by exact K5.out.z) (by kernel_rfl) (by kernel_rfl) (by kernel_rfl) ?_)
        refine bodyPost_ret (results_cell_tmp rfl _ _ w.heap.size 34 _ _ rfl (setRow_heap _ _ _ _ _ _ K5.out.z) Tryz.underlying34 rfl (by kernel_rfl)) rfl ?_
        rw [HF.out]
        exact ⟨rfl, below_one_row _ _ _ _ _ K5.out.b (Nat.le_refl _)⟩
      | cons r0 rr =>
        cases hq : (r0 :: rr == s)
        · have HF : Hid (res = none) := by show _ = _; rw [HR.out]; exact if_neg (fun h => by rw [beq_eq_false_iff_ne] at hq; exact hq h.2)
          go_wp2_with (refine wpList_store_row (by rfl) 34 _ _ (by rfl) w.heap.size placeZero (by rfl) (by rfl) 34 _ (by exact K5.out.z) (by kernel_rfl) (by kernel_rfl) (by kernel_rfl) ?_)
          refine bodyPost_ret (results_cell_tmp rfl _ _ w.heap.size 34 _ _ rfl (setRow_heap _ _ _ _ _ _ K5.out.z) Tryz.underlying34 rfl (by kernel_rfl)) rfl ?_
          rw [HF.out]
          exact ⟨rfl, below_one_row _ _ _ _ _ K5.out.b (Nat.le_refl _)⟩
        · have HF : Hid (res = some ⟨100, [], [], n, 0⟩) := by show _ = _; rw [HR.out]; exact if_pos ⟨by simp, beq_iff_eq.1 hq⟩
          go_wp2_with (first
            | (refine wpList_load_row (by rfl) 34 _ (by rfl) (w.heap.size + 1) (by rfl) 34 _ (0, 0) _ (by exact HX.out) Tryz.underlying34 rfl (by kernel_rfl) ?_)
            | (refine wpList_store_row (by rfl) 34 _ _ (by rfl) w.heap.size _ (by rfl) (by rfl) 34 _ (by exact HZ5.out) (by kernel_rfl) (by kernel_rfl) (by kernel_rfl) ?_))
          refine bodyPost_ret (results_cell_tmp rfl _ _ w.heap.size 34 _ _ rfl (setRow_heap _ _ _ _ _ _ HZ5.out) Tryz.underlying34 rfl (by kernel_rfl)) rfl ?_
          rw [HF.out]
          exact ⟨rfl, below_one_row _ _ _ _ _ B5.out (Nat.le_refl _)⟩
    by_cases hk112 : k = 112
    · subst hk112
      by_cases h19 : rest.length = 19
      · obtain ⟨n, hn, hnn⟩ : ∃ n, (readNum (rest.take 16)).getD 0 = n ∧ IntOK n := ⟨_, rfl, readNum_getD _⟩
        have hsr : (⟨rest.toArray⟩ : ByteArray).size = 19 := by simp [ByteArray.size, h19]
        have h19z : (rest.length : Int) = 19 := by omega
        have ht16 : (⟨rest.toArray⟩ : ByteArray).extract 0 16 = ⟨(rest.take 16).toArray⟩ := by
          have := extract_take ⟨rest.toArray⟩ 16
          simpa using this
        obtain ⟨x, hx⟩ : ∃ x : Int, (((⟨rest.toArray⟩ : ByteArray)[17]'(by rw [hsr]; decide)).toNat : Int) = x := ⟨_, rfl⟩
        obtain ⟨y, hy⟩ : ∃ y : Int, (((⟨rest.toArray⟩ : ByteArray)[18]'(by rw [hsr]; decide)).toNat : Int) = y := ⟨_, rfl⟩
        have hx' : ((rest.getD 17 0).toNat : Int) = x := by rw [← hx]; simp [ByteArray.getElem_eq_getElem_data, List.getD, h19]
        have hy' : ((rest.getD 18 0).toNat : Int) = y := by rw [← hy]; simp [ByteArray.getElem_eq_getElem_data, List.getD, h19]
        have hxb : 0 ≤ x ∧ x < 256 := by rw [← hx]; exact ⟨by omega, by have := UInt8.toNat_lt ((⟨rest.toArray⟩ : ByteArray)[17]'(by rw [hsr]; decide)); omega⟩
        have hyb : 0 ≤ y ∧ y < 256 := by rw [← hy]; exact ⟨by omega, by have := UInt8.toNat_lt ((⟨rest.toArray⟩ : ByteArray)[18]'(by rw [hsr]; decide)); omega⟩
        obtain ⟨m, hm⟩ : ∃ m : Int, 10 * (x - 48) + (y - 48) = m := ⟨_, rfl⟩
        have hmm : IntOK m := by unfold IntOK; omega
        have HCD : Hid (rCand 112 rest = some ⟨112, [], [], n, m⟩) := by
          show (if rest.length = 19 then some (PlaceV.mk 112 [] [] _ _) else none) = _
          rw [if_pos h19, hx', hy', hn, hm]
        rw [HCD.out] at HR
        clear HCD hx' hy'
        unfold rTry at HR
        simp only at HR
        have g1 : IntKind.i64.wrap (x - 48) = x - 48 := by go_arith
        have g2 : IntKind.i64.wrap (10 * (x - 48)) = 10 * (x - 48) := by go_arith
        have g3 : IntKind.i64.wrap (10 * (x - 48) + y) = 10 * (x - 48) + y := by go_arith
        have g4 : IntKind.i64.wrap (10 * (x - 48) + y - 48) = m := by rw [← hm, show 10 * (x - 48) + y - 48 = 10 * (x - 48) + (y - 48) by omega]; go_arith
        have g5 : 10 * (x - 48) + y - 48 = m := by omega
        clear hm
        go_enter Tryz.func17, Tryz.ntmps17
        go_wp2_with fail
        refine Calls.mono (rReadNumberB (rest.take 16) (by simp; omega) _) ?_
        rintro e w2 ⟨rfl, hb⟩
        have Kw2 : Hid (RqAt w w2 #[.int .u8 112, .string ⟨#[]⟩, .string ⟨#[]⟩, .int .i64 0, .int .i64 0]) := Lib.hid (RqAt.later ⟨by first | exact heap_at1 _ _ _ | simp, by first | exact (Below.heap_alloc _ _ _ (by simp)).trans (heap_alloc_new _ _) | simp, (by repeat (first | exact Below.refl _ _ | assumption | (refine belowDrewN ?_ _) | (refine Below.alloc ?_ (by first | (simp; done) | (simp; omega) | omega) _) | (refine Below.setCell ?_ (by first | (simp; done) | (simp; omega) | omega) _)))⟩ hb)
        clear hb
        rw [hn]
        clear hn
        go_wp2_with (refine wpList_place_store (w0 := w) (by rfl) 3 _ _ (by rfl) 3 _ (.int .i64 n) (by rfl) (by rfl) (by first | rfl | assumption) (by rfl) _ (by exact Kw2.out) (by simp) (by kernel_rfl) (.int .u8 112) (.string ⟨#[]⟩) (.string ⟨#[]⟩) (.int .i64 n) (.int .i64 0) (by rfl) (fun w3 K3 q1 q2 q3 q4 => ?_))
        have f4 : w3.frozen? ⟨w.heap.size + 1, 4, none⟩ = false := free_of_heap K3.x
        go_region
        all_goals
          go_wp2_with fail
          have K4 : RqAt w (w3.setCell ⟨w.heap.size + 1, 4, none⟩ (.int .i64 m)).drew #[.int .u8 112, .string ⟨#[]⟩, .string ⟨#[]⟩, .int .i64 n, .int .i64 m] := K3.cell 4 _ rfl
          refine Calls.mono (rPartKeyB n m hnn hmm _) ?_
          rintro e w5 ⟨rfl, hb⟩
          have K5 : Hid (RqAt w w5 #[.int .u8 112, .string ⟨#[]⟩, .string ⟨#[]⟩, .int .i64 n, .int .i64 m]) := Lib.hid (RqAt.later K4 hb)
          clear hb
          have HX := Lib.hid K5.out.x
          have HZ5 := Lib.hid K5.out.z
          have B5 := Lib.hid K5.out.b
          obtain ⟨R, hRR⟩ : ∃ R, Hid (placeKeyL ⟨112, [], [], n, m⟩ = R) := ⟨_, rfl⟩
          have hRR' : partKeyL n m = R := hRR.out
          rw [hRR']
          rw [hRR.out] at HR
          clear hRR'
          cases R with
          | nil =>
            have HF : Hid (res = none) := by show _ = _; rw [HR.out]; exact if_neg (fun h => h.1 rfl)
            go_wp2_with (refine wpList_store_row (by rfl) 34 _ _ (by rfl) w.heap.size placeZero (by rfl) (by rfl) 34 _ (by exact K5.out.z) (by kernel_rfl) (by kernel_rfl) (by kernel_rfl) ?_)
            refine bodyPost_ret (results_cell_tmp rfl _ _ w.heap.size 34 _ _ rfl (setRow_heap _ _ _ _ _ _ K5.out.z) Tryz.underlying34 rfl (by kernel_rfl)) rfl ?_
            rw [HF.out]
            exact ⟨rfl, below_one_row _ _ _ _ _ K5.out.b (Nat.le_refl _)⟩
          | cons r0 rr =>
            cases hq : (r0 :: rr == s)
            · have HF : Hid (res = none) := by show _ = _; rw [HR.out]; exact if_neg (fun h => by rw [beq_eq_false_iff_ne] at hq; exact hq h.2)
              go_wp2_with (refine wpList_store_row (by rfl) 34 _ _ (by rfl) w.heap.size placeZero (by rfl) (by rfl) 34 _ (by exact K5.out.z) (by kernel_rfl) (by kernel_rfl) (by kernel_rfl) ?_)
              refine bodyPost_ret (results_cell_tmp rfl _ _ w.heap.size 34 _ _ rfl (setRow_heap _ _ _ _ _ _ K5.out.z) Tryz.underlying34 rfl (by kernel_rfl)) rfl ?_
              rw [HF.out]
              exact ⟨rfl, below_one_row _ _ _ _ _ K5.out.b (Nat.le_refl _)⟩
            · have HF : Hid (res = some ⟨112, [], [], n, m⟩) := by show _ = _; rw [HR.out]; exact if_pos ⟨by simp, beq_iff_eq.1 hq⟩
              go_wp2_with (first
                | (refine wpList_load_row (by rfl) 34 _ (by rfl) (w.heap.size + 1) (by rfl) 34 _ (0, 0) _ (by exact HX.out) Tryz.underlying34 rfl (by kernel_rfl) ?_)
                | (refine wpList_store_row (by rfl) 34 _ _ (by rfl) w.heap.size _ (by rfl) (by rfl) 34 _ (by exact HZ5.out) (by kernel_rfl) (by kernel_rfl) (by kernel_rfl) ?_))
              refine bodyPost_ret (results_cell_tmp rfl _ _ w.heap.size 34 _ _ rfl (setRow_heap _ _ _ _ _ _ HZ5.out) Tryz.underlying34 rfl (by kernel_rfl)) rfl ?_
              rw [HF.out]
              exact ⟨rfl, below_one_row _ _ _ _ _ B5.out (Nat.le_refl _)⟩
      · have HF : Hid (res = none) := by
          show _ = _
          have HCD : rCand 112 rest = none := if_neg h19
          rw [HR.out, HCD]; rfl
        have h19z : ¬ (rest.length : Int) = 19 := by omega
        have h19b : ((rest.length : Int) == 19) = false := by rw [beq_eq_false_iff_ne]; exact h19z
        clear HR
        go_enter Tryz.func17, Tryz.ntmps17
        go_wp2_with (refine wpList_store_row (by rfl) 34 _ _ (by rfl) w.heap.size placeZero (by rfl) (by rfl) 34 _ (by exact (Below.heap_alloc _ _ _ (by simp)).trans HZ.out) (by kernel_rfl) (by kernel_rfl) (by kernel_rfl) ?_)
        refine bodyPost_ret (results_cell_tmp rfl _ _ w.heap.size 34 _ _ rfl (setRow_heap _ _ _ _ _ _ ((Below.heap_alloc _ _ _ (by simp)).trans HZ.out)) Tryz.underlying34 rfl (by kernel_rfl)) rfl ?_
        rw [HF.out]
        exact ⟨rfl, below_one_row _ _ _ _ _ (below_alloc (below_alloc (Below.refl _ _) (Nat.le_refl _) _) (by simp) _) (Nat.le_refl _)⟩
    by_cases hk118 : k = 118
    · subst hk118
      rw [HR.out, HSR.out]
      exact rReadKey_v rest (by omega) w
    have HF : Hid (res = none) := by
      show _ = _
      rw [HR.out]
      have HCD : rCand k rest = none := by
        unfold rCand
        rw [if_neg (show ¬ k.toNat = 98 from fun h => hk98 (UInt8.toNat_inj.1 h)), if_neg (show ¬ k.toNat = 117 from fun h => hk117 (UInt8.toNat_inj.1 h)), if_neg (show ¬ k.toNat = 100 from fun h => hk100 (UInt8.toNat_inj.1 h)), if_neg (show ¬ k.toNat = 112 from fun h => hk112 (UInt8.toNat_inj.1 h)), if_neg (show ¬ k.toNat = 118 from fun h => hk118 (UInt8.toNat_inj.1 h))]
      rw [HCD]; rfl
    have e98 : ((k.toNat : Int) == 98) = false := by rw [beq_eq_false_iff_ne]; intro h; exact hk98 (UInt8.toNat_inj.1 (by have : (98 : UInt8).toNat = 98 := rfl; omega))
    have e117 : ((k.toNat : Int) == 117) = false := by rw [beq_eq_false_iff_ne]; intro h; exact hk117 (UInt8.toNat_inj.1 (by have : (117 : UInt8).toNat = 117 := rfl; omega))
    have e100 : ((k.toNat : Int) == 100) = false := by rw [beq_eq_false_iff_ne]; intro h; exact hk100 (UInt8.toNat_inj.1 (by have : (100 : UInt8).toNat = 100 := rfl; omega))
    have e112 : ((k.toNat : Int) == 112) = false := by rw [beq_eq_false_iff_ne]; intro h; exact hk112 (UInt8.toNat_inj.1 (by have : (112 : UInt8).toNat = 112 := rfl; omega))
    have e118 : ((k.toNat : Int) == 118) = false := by rw [beq_eq_false_iff_ne]; intro h; exact hk118 (UInt8.toNat_inj.1 (by have : (118 : UInt8).toNat = 118 := rfl; omega))
    clear HR
    go_enter Tryz.func17, Tryz.ntmps17
    go_wp2_with (refine wpList_store_row (by rfl) 34 _ _ (by rfl) w.heap.size placeZero (by rfl) (by rfl) 34 _ (by exact (Below.heap_alloc _ _ _ (by simp)).trans HZ.out) (by kernel_rfl) (by kernel_rfl) (by kernel_rfl) ?_)
    refine bodyPost_ret (results_cell_tmp rfl _ _ w.heap.size 34 _ _ rfl (setRow_heap _ _ _ _ _ _ ((Below.heap_alloc _ _ _ (by simp)).trans HZ.out)) Tryz.underlying34 rfl (by kernel_rfl)) rfl ?_
    rw [HF.out]
    exact ⟨rfl, below_one_row _ _ _ _ _ (below_alloc (below_alloc (Below.refl _ _) (Nat.le_refl _) _) (by simp) _) (Nat.le_refl _)⟩
  · have HF : Hid (res = none) := by
      show _ = _
      rw [← hres.out]; unfold rPlaceOf; rw [if_neg h110, hsr]
      exact if_neg hc
    have ec : ((c.toNat : Int) == 47) = false := by rw [beq_eq_false_iff_ne]; intro h; exact hc (UInt8.toNat_inj.1 (by have : (47 : UInt8).toNat = 47 := rfl; omega))
    have ec' : ((c.toNat : Int) != 47) = true := by rw [bne_iff_ne]; intro h; exact hc (UInt8.toNat_inj.1 (by have : (47 : UInt8).toNat = 47 := rfl; omega))
    clear hres h110 hsr
    go_enter Tryz.func17, Tryz.ntmps17
    go_wp2_with (refine wpList_store_row (by rfl) 34 _ _ (by rfl) w.heap.size placeZero (by rfl) (by rfl) 34 _ (by exact HZ.out) (by kernel_rfl) (by kernel_rfl) (by kernel_rfl) ?_)
    refine bodyPost_ret (results_cell_tmp rfl _ _ w.heap.size 34 _ _ rfl (setRow_heap _ _ _ _ _ _ HZ.out) Tryz.underlying34 rfl (by kernel_rfl)) rfl ?_
    rw [HF.out]
    exact ⟨rfl, below_one_row _ _ _ _ _ (below_alloc (Below.refl _ _) (Nat.le_refl _) _) (Nat.le_refl _)⟩

end Go.Proofs.YtajmkkjlhmeolaaGreatDoor
