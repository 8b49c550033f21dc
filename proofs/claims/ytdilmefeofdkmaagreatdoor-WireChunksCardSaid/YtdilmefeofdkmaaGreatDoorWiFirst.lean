/-
  WIRE: a byte of a first line. (Printed by wip/gen/wifirst.py.)
-/
import Derived.Test.YtdilmefeofdkmaaGreatDoorWiM3
namespace Go.Proofs.YtdilmefeofdkmaaGreatDoor
open Go.RowKit

set_option maxHeartbeats 4000000 in
set_option maxRecDepth 100000 in
theorem first_any {w : World} {rd : Nat} {ms : Own} {s : RS} {out : List ReqV} (h : RdrAt w rd ms s out) (b : UInt8) (hl : s.line.length ≤ 1000000000) (hh0 : 0 ≤ s.head) (hh1 : s.head ≤ 8000) (hb0 : 0 ≤ s.blanks) (hbl1 : s.blanks ≤ 1000000) (ht0 : 0 ≤ s.tgt) (ht1 : s.tgt ≤ 1000000) :
    Calls Tryz.prog 54 #[.pointer (some ⟨rd, 0, none⟩), .int .u8 b.toNat] w fun x w' => x = .returned (.tuple #[]) ∧ RdPost w rd ms (s.first b) out w' := by
  obtain ⟨i0, hi, hz0, hz1, hz2⟩ := info_byte
  have hb256 := b.toNat_lt
  have HC := Lib.hid (counts_any h hh0 hh1)
  clear h
  go_enter Tryz.func54, Tryz.ntmps54
  go_wp2_with fail
  refine HC.out.mono ?_
  rintro e w1 ⟨rfl, ms1, r1, m1⟩
  by_cases hc : 8000 < s.head + 1
  · have HR : Hid (s.first b = s.counts) := by show _ = _; unfold RS.first; simp only; rw [if_pos hc]
    have R1 := Lib.hid r1
    have M1 := Lib.hid m1
    have hd : decide (s.head + 1 ≤ 8000) = false := decide_eq_false (by omega)
    clear r1 m1 hc
    rw [hd]
    clear hd
    go_wp2_with fail
    first | go_end0 | (refine bodyPost_ret (results_none rfl _ _ _) rfl ?_)
    rw [HR.out]
    exact ⟨rfl, ms1, R1.out, M1.out⟩
  · have hd : decide (s.head + 1 ≤ 8000) = true := decide_eq_true (by omega)
    have ht : s.counts = { s with head := s.head + 1 } := by unfold RS.counts; rw [if_neg hc]
    have HF : Hid (s.first b = if b = 10 then (if trimCR s.line = [] then ({ s with head := s.head + 1, line := [] } : RS).begin else { ({ s with head := s.head + 1, line := [] } : RS).request (trimCR s.line) with mode := .field }) else if b = 32 then ({ s with head := s.head + 1, blanks := s.blanks + 1 } : RS).put b else if s.blanks = 1 then (if 2000 < s.tgt + 1 then ({ s with head := s.head + 1, tgt := s.tgt + 1 } : RS).fail 66 else ({ s with head := s.head + 1, tgt := s.tgt + 1 } : RS).put b) else ({ s with head := s.head + 1 } : RS).put b) := by
      show _ = _
      unfold RS.first
      simp only
      rw [if_neg hc, ht]
    rw [ht] at r1
    rw [hd]
    clear hc ht hd
    by_cases hb : b = 10
    · subst hb
      rw [if_pos rfl] at HF
      have HE := Lib.hid (ended_any r1 (by simp only; omega))
      have M1 := Lib.hid m1
      have hlen := trimCR_len s.line
      clear r1 m1
      go_wp2_with fail
      refine HE.out.mono ?_
      generalize trimCR s.line = line at *
      rintro e w2 ⟨rfl, ms2, r2, m2⟩
      have M2 := Lib.hid (M1.out.trans m2)
      by_cases hn : line = []
      · subst hn
        rw [if_pos rfl] at HF
        obtain ⟨vo, vl, vf, vb, hI⟩ := r2
        have HB := Lib.hid (begin_any hI.toRdrO)
        clear hI m2
        go_wp2_with fail
        refine HB.out.mono ?_
        rintro e w3 ⟨rfl, ms3, r3, m3⟩
        go_wp2_with fail
        first | go_end0 | (refine bodyPost_ret (results_none rfl _ _ _) rfl ?_)
        rw [HF.out]
        exact ⟨rfl, ms3, r3, M2.out.trans m3⟩
      · have hb1 : (line == []) = false := by rw [beq_eq_false_iff_ne]; exact hn
        rw [if_neg hn] at HF
        have HQ := Lib.hid (request_any r2 line (by omega))
        clear r2 m2
        go_wp2_with fail
        refine HQ.out.mono ?_
        rintro e w3 ⟨rfl, ms3, ⟨vo, vl, vf, vb, hI⟩, m3⟩
        have q0 : w3.cell? ⟨rd, 0, none⟩ = some (nextV rd _) := cell_of_heap hI.box
        have f0 : w3.frozen? ⟨rd, 0, none⟩ = false := free_of_heap hI.box
        have I3 := Lib.hid hI
        have M3 := Lib.hid (M2.out.trans m3)
        clear hI m3
        go_wp2_with fail
        first | go_end0 | (refine bodyPost_ret (results_none rfl _ _ _) rfl ?_)
        rw [HF.out]
        exact ⟨rfl, _, ⟨_, _, _, _, I3.out.set 0 (nextV rd .field) _ rfl rfl rfl rfl⟩, M3.out.trans (I3.out.mvSet 0 _)⟩
    · have hb1 : ((b.toNat : Int) == 10) = false := toNat_ne (n := 10) (by decide) hb
      rw [if_neg hb] at HF
      obtain ⟨vo, vl, vf, vb, hI⟩ := r1
      obtain ⟨a, c, rfl⟩ := row_form hI.line
      have K1 := Lib.hid hI
      have M1 := Lib.hid m1
      have hlt := hI.lt
      clear hb m1
      by_cases hs : b = 32
      · have hb2 : ((b.toNat : Int) == 32) = true := by rw [hs]; rfl
        rw [if_pos hs] at HF
        have q6 : w1.cell? ⟨rd, 6, none⟩ = some (.int .i64 s.blanks) := cell_of_heap hI.box
        have f6 : w1.frozen? ⟨rd, 6, none⟩ = false := free_of_heap hI.box
        have kA := hI.set 6 (.int .i64 (s.blanks + 1)) { s with head := s.head + 1, blanks := s.blanks + 1 } rfl rfl rfl rfl
        have KA := Lib.hid kA
        have MA := Lib.hid (M1.out.trans (hI.mvSet 6 (.int .i64 (s.blanks + 1))))
        have q4 : (w1.setCell ⟨rd, 6, none⟩ (.int .i64 (s.blanks + 1))).cell? ⟨rd, 4, none⟩ = some (.slice a s.line.length c) := cell_of_heap kA.box
        have hls : w1.heap.size = (w1.setCell ⟨rd, 6, none⟩ (.int .i64 (s.blanks + 1))).heap.size := by simp [World.setCell]
        clear hI hs kA
        go_upto_region 13 with (fail)
        generalize (w1.setCell ⟨rd, 6, none⟩ (.int .i64 (s.blanks + 1))) = wa at *
        clear q6 f6 K1 M1
        go_wp2_with (refine wpList_append_lies _ rfl _ _ 41 rfl 0 5 i0 _ 1 1 Tryz.underlying41 hi hz0 hz1 hz2 rfl (by decide) (.slice a s.line.length c) s.line.length (Lib.byteCells s.line) rfl (KA.out.line.alloc _) ⟨wa.heap.size, 0, none⟩ 1 1 [.int .u8 b.toNat] rfl rfl (fun j u hj => cells_new _ _ _ _ _ (by simpa using hj)) (by simp [Value.oneCell']) (by decide) (by simp only [maxLen]; omega) (by omega) (Nat.zero_le _) _ rfl ?_)
        intro g cap w2 hown hgr hat hlt2
        have hIa := KA.out.later (below_alloc (Below.refl _ _) (Nat.le_refl _) (.cells #[.int .u8 b.toNat] 5))
        have hbx := hIa.past hIa.oL hgr
        have q4 : w2.cell? ⟨rd, 4, none⟩ = some (.slice a s.line.length c) := cell_of_heap hbx
        have f4 : w2.frozen? ⟨rd, 4, none⟩ = false := free_of_heap hbx
        have hP := hIa.pushLine (s' := ({ s with head := s.head + 1, blanks := s.blanks + 1 } : RS).put b) hown hgr (by rw [World.size_alloc]; exact hat) hlt2 rfl ⟨by simp [RS.put], byteCells_snoc _ _⟩ rfl rfl
        have HP := Lib.hid hP.1
        have HM := Lib.hid (MA.out.trans ((Mv.of_below (below_alloc (Below.refl _ _) (Nat.le_refl _) _)).trans hP.2))
        have HX := Lib.hid hbx
        clear hIa hbx hP hown hgr hat
        go_wp2_with fail
        first | go_end0 | (refine bodyPost_ret (results_none rfl _ _ _) rfl ?_)
        rw [HF.out]
        exact ⟨rfl, _, ⟨_, _, _, _, HP.out⟩, HM.out⟩
      · have hb2 : ((b.toNat : Int) == 32) = false := toNat_ne (n := 32) (by decide) hs
        rw [if_neg hs] at HF
        have q6 : w1.cell? ⟨rd, 6, none⟩ = some (.int .i64 s.blanks) := cell_of_heap hI.box
        by_cases h1 : s.blanks = 1
        · have e1 := beq_int_true h1
          rw [if_pos h1] at HF
          have q7 : w1.cell? ⟨rd, 7, none⟩ = some (.int .i64 s.tgt) := cell_of_heap hI.box
          have f7 : w1.frozen? ⟨rd, 7, none⟩ = false := free_of_heap hI.box
          have kA := hI.set 7 (.int .i64 (s.tgt + 1)) { s with head := s.head + 1, tgt := s.tgt + 1 } rfl rfl rfl rfl
          have KA := Lib.hid kA
          have MA := Lib.hid (M1.out.trans (hI.mvSet 7 (.int .i64 (s.tgt + 1))))
          have q4 : (w1.setCell ⟨rd, 7, none⟩ (.int .i64 (s.tgt + 1))).cell? ⟨rd, 4, none⟩ = some (.slice a s.line.length c) := cell_of_heap kA.box
          clear h1
          by_cases h2 : 2000 < s.tgt + 1
          · rw [if_pos h2] at HF
            have HX := Lib.hid (fail_any ⟨_, _, _, _, kA⟩ 66)
            clear hI hs kA
            go_wp2_with fail
            refine HX.out.mono ?_
            rintro e w3 ⟨rfl, ms3, r3, m3⟩
            go_wp2_with fail
            first | go_end0 | (refine bodyPost_ret (results_none rfl _ _ _) rfl ?_)
            rw [HF.out]
            exact ⟨rfl, ms3, r3, MA.out.trans m3⟩
          · rw [if_neg h2] at HF
            have h3 : s.tgt + 1 ≤ 2000 := by omega
            clear hI hs kA h2
            go_upto_region 13 with (fail)
            generalize (w1.setCell ⟨rd, 7, none⟩ (.int .i64 (s.tgt + 1))) = wa at *
            clear q6 q7 f7 K1 M1
            go_wp2_with (refine wpList_append_lies _ rfl _ _ 41 rfl 0 5 i0 _ 1 1 Tryz.underlying41 hi hz0 hz1 hz2 rfl (by decide) (.slice a s.line.length c) s.line.length (Lib.byteCells s.line) rfl (KA.out.line.alloc _) ⟨wa.heap.size, 0, none⟩ 1 1 [.int .u8 b.toNat] rfl rfl (fun j u hj => cells_new _ _ _ _ _ (by simpa using hj)) (by simp [Value.oneCell']) (by decide) (by simp only [maxLen]; omega) (by omega) (Nat.zero_le _) _ rfl ?_)
            intro g cap w2 hown hgr hat hlt2
            have hIa := KA.out.later (below_alloc (Below.refl _ _) (Nat.le_refl _) (.cells #[.int .u8 b.toNat] 5))
            have hbx := hIa.past hIa.oL hgr
            have q4 : w2.cell? ⟨rd, 4, none⟩ = some (.slice a s.line.length c) := cell_of_heap hbx
            have f4 : w2.frozen? ⟨rd, 4, none⟩ = false := free_of_heap hbx
            have hP := hIa.pushLine (s' := ({ s with head := s.head + 1, tgt := s.tgt + 1 } : RS).put b) hown hgr (by rw [World.size_alloc]; exact hat) hlt2 rfl ⟨by simp [RS.put], byteCells_snoc _ _⟩ rfl rfl
            have HP := Lib.hid hP.1
            have HM := Lib.hid (MA.out.trans ((Mv.of_below (below_alloc (Below.refl _ _) (Nat.le_refl _) _)).trans hP.2))
            have HX := Lib.hid hbx
            clear hIa hbx hP hown hgr hat
            go_wp2_with fail
            first | go_end0 | (refine bodyPost_ret (results_none rfl _ _ _) rfl ?_)
            rw [HF.out]
            exact ⟨rfl, _, ⟨_, _, _, _, HP.out⟩, HM.out⟩
        · have e1 := beq_int_false h1
          rw [if_neg h1] at HF
          have q4 : w1.cell? ⟨rd, 4, none⟩ = some (.slice a s.line.length c) := cell_of_heap hI.box
          clear hI hs h1
          go_wp2_with (refine wpList_append_lies _ rfl _ _ 41 rfl 0 5 i0 _ 1 1 Tryz.underlying41 hi hz0 hz1 hz2 rfl (by decide) (.slice a s.line.length c) s.line.length (Lib.byteCells s.line) rfl (K1.out.line.alloc _) ⟨w1.heap.size, 0, none⟩ 1 1 [.int .u8 b.toNat] rfl rfl (fun j u hj => cells_new _ _ _ _ _ (by simpa using hj)) (by simp [Value.oneCell']) (by decide) (by simp only [maxLen]; omega) (by omega) (Nat.zero_le _) _ rfl ?_)
          intro g cap w2 hown hgr hat hlt2
          have hIa := K1.out.later (below_alloc (Below.refl _ _) (Nat.le_refl _) (.cells #[.int .u8 b.toNat] 5))
          have hbx := hIa.past hIa.oL hgr
          have q4 : w2.cell? ⟨rd, 4, none⟩ = some (.slice a s.line.length c) := cell_of_heap hbx
          have f4 : w2.frozen? ⟨rd, 4, none⟩ = false := free_of_heap hbx
          have hP := hIa.pushLine (s' := ({ s with head := s.head + 1 } : RS).put b) hown hgr (by rw [World.size_alloc]; exact hat) hlt2 rfl ⟨by simp [RS.put], byteCells_snoc _ _⟩ rfl rfl
          have HP := Lib.hid hP.1
          have HM := Lib.hid (M1.out.trans ((Mv.of_below (below_alloc (Below.refl _ _) (Nat.le_refl _) _)).trans hP.2))
          have HX := Lib.hid hbx
          clear hIa hbx hP hown hgr hat
          go_wp2_with fail
          first | go_end0 | (refine bodyPost_ret (results_none rfl _ _ _) rfl ?_)
          rw [HF.out]
          exact ⟨rfl, _, ⟨_, _, _, _, HP.out⟩, HM.out⟩

end Go.Proofs.YtdilmefeofdkmaaGreatDoor
