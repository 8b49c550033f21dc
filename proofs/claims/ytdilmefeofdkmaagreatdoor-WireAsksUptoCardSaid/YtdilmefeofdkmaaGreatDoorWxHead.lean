/-
  WIRE: a byte of a head, by the document. (Printed by wip/gen/wxbyte.py.)
-/
import Derived.Test.YtdilmefeofdkmaaGreatDoorWxSize
namespace Go.Proofs.YtdilmefeofdkmaaGreatDoor
open Go.RowKit Go.PlainAid

theorem toNat_eq {b : UInt8} {n : Nat} (h : b = UInt8.ofNat n) (hn : n < 256) : ((b.toNat : Int) == (n : Int)) = true := by
  rw [beq_iff_eq, h]
  simp
  omega

set_option maxHeartbeats 16000000 in
set_option maxRecDepth 100000 in
theorem rHead_any {w : World} {rd : Nat} {ms : Nat → Prop} {s : QS} {out : List ReqV} (h : RefAt w rd ms s out) (b : UInt8) (hh0 : 0 ≤ s.head) (hh1 : s.head ≤ 1000000) (htt : s.first = true → -1 ≤ s.target ∧ s.target ≤ 1000000) (hll : s.line.length ≤ 1000000000) (hmi : s.minor = 0 ∨ s.minor = 1) (hf0 : s.first = true → s.fields = []) (hfl : s.fields.length ≤ 1000000) (ho : out.length ≤ 1000000000) (hsh : ∀ f ∈ s.fields, f.2.length ≤ 140737488351232) :
    Calls Tryz.prog 55 #[.pointer (some ⟨rd, 0, none⟩), .int .u8 b.toNat] w fun x w' => x = .returned (.tuple #[]) ∧ RfPost w rd ms (s.inHead b).1 (out ++ (s.inHead b).2) w' := by
  obtain ⟨i0, hi, hz0, hz1, hz2⟩ := info_byte
  have hb256 := b.toNat_lt
  obtain ⟨vo, vl, vf, vb, hI⟩ := h
  obtain ⟨al, cl, rfl⟩ := row_form hI.line
  obtain ⟨af, cf, rfl⟩ := row_form hI.flds
  have HA := Lib.hid hI
  have q1 : w.cell? ⟨rd, 1, none⟩ = some (.int .i64 s.head) := cell_of_heap hI.box
  have f1 : w.frozen? ⟨rd, 1, none⟩ = false := free_of_heap hI.box
  have K := Lib.hid (hI.set 1 (.int .i64 (s.head + 1)) { s with head := s.head + 1 } rfl rfl rfl rfl)
  have M := Lib.hid (hI.mvSet 1 (.int .i64 (s.head + 1)))
  clear hI
  go_enter Tryz.func55, Tryz.ntmps55
  go_upto_region 1 with (fail)
  clear q1 f1 HA
  generalize w.setCell ⟨rd, 1, none⟩ (.int .i64 (s.head + 1)) = wz at K M ⊢
  have q1 : wz.cell? ⟨rd, 1, none⟩ = some (.int .i64 (s.head + 1)) := cell_of_heap K.out.box
  have q2 : wz.cell? ⟨rd, 2, none⟩ = some (.int .i64 s.target) := cell_of_heap K.out.box
  have f2 : wz.frozen? ⟨rd, 2, none⟩ = false := free_of_heap K.out.box
  have q3 : wz.cell? ⟨rd, 3, none⟩ = some (.bool s.first) := cell_of_heap K.out.box
  have q7 : wz.cell? ⟨rd, 7, none⟩ = some (.string ⟨s.meth.toArray⟩) := cell_of_heap K.out.box
  have f7 : wz.frozen? ⟨rd, 7, none⟩ = false := free_of_heap K.out.box
  have q10 : wz.cell? ⟨rd, 10, none⟩ = some (.slice af s.fields.length cf) := cell_of_heap K.out.box
  by_cases c0 : 8000 < s.head + 1
  · have HR : Hid (s.inHead b = (({ s with head := s.head + 1 } : QS).no 67, [])) := by show _ = _; unfold QS.inHead; simp only; rw [if_pos c0]
    go_wp2_with fail
    refine (no_any ⟨_, _, _, _, K.out⟩ 67).mono ?_
    rintro e w7 ⟨rfl, ms7, r7, m7⟩
    go_wp2_with fail
    first | go_end0 | (refine bodyPost_ret (results_none rfl _ _ _) rfl ?_)
    rw [HR.out, List.append_nil]
    exact ⟨rfl, ms7, r7, M.out.trans m7⟩
  have c0n : s.head + 1 ≤ 8000 := by omega
  by_cases c1 : b = 10
  case neg =>
    have hb10 : ((b.toNat : Int) == 10) = false := toNat_ne (n := 10) (by decide) c1
    have hb10n : ((b.toNat : Int) != 10) = true := by rw [bne, hb10]; rfl
    obtain ⟨fi, hfi⟩ : ∃ x, s.first = x := ⟨_, rfl⟩
    rw [hfi] at q3
    cases fi with
    | false =>
      have HR : Hid (s.inHead b = (({ s with head := s.head + 1 } : QS).put b, [])) := by show _ = _; unfold QS.inHead; simp only; rw [if_neg c0, if_pos c1, if_neg (by rw [hfi]; simp), if_neg (by rw [hfi]; simp)]
      clear c0 c1 hfi
      have q4 : wz.cell? ⟨rd, 4, none⟩ = some (.slice al s.line.length cl) := cell_of_heap K.out.box
      have hltz9 := K.out.lt
      go_wp2_with (refine wpList_append_lies _ rfl _ _ 41 rfl 0 5 i0 _ 1 1 Tryz.underlying41 hi hz0 hz1 hz2 rfl (by decide) (.slice al s.line.length cl) s.line.length (Lib.byteCells s.line) rfl (K.out.line.alloc _) ⟨wz.heap.size, 0, none⟩ 1 1 [.int .u8 b.toNat] rfl rfl (fun j u hj => cells_new _ _ _ _ _ (by simpa using hj)) (by simp [Value.oneCell']) (by decide) (by simp only [maxLen]; omega) (by omega) (Nat.zero_le _) _ rfl ?_)
      intro g cap w2 hown hgr hat hlt2
      have hIa := K.out.later (below_alloc (Below.refl _ _) (Nat.le_refl _) (.cells #[.int .u8 b.toNat] 5))
      have hbx := hIa.past hIa.oL hgr
      have q4 : w2.cell? ⟨rd, 4, none⟩ = some (.slice al s.line.length cl) := cell_of_heap hbx
      have f4 : w2.frozen? ⟨rd, 4, none⟩ = false := free_of_heap hbx
      have hP := hIa.pushLine (s' := ({ s with head := s.head + 1 } : QS).put b) hown hgr (by rw [World.size_alloc]; exact hat) hlt2 rfl ⟨by simp [QS.put], byteCells_snoc _ _⟩ rfl rfl
      have HP := Lib.hid hP.1
      have HM := Lib.hid (M.out.trans ((Xv.of_below (below_alloc (Below.refl _ _) (Nat.le_refl _) _)).trans hP.2))
      have HX := Lib.hid hbx
      clear hIa hP hown hgr hat hbx
      go_wp2_with fail
      first | go_end0 | (refine bodyPost_ret (results_none rfl _ _ _) rfl ?_)
      rw [HR.out, List.append_nil]
      exact ⟨rfl, _, ⟨_, _, _, _, HP.out⟩, HM.out⟩
    | true =>
      obtain ⟨ht0, ht1⟩ := htt hfi
      by_cases c2 : b = 32
      · have hb32 : ((b.toNat : Int) == 32) = true := toNat_eq (n := 32) c2 (by decide)
        by_cases c3 : s.target < 0 ∧ s.meth = []
        · have HR : Hid (s.inHead b = (({ s with head := s.head + 1, target := 0, meth := [63] } : QS).put b, [])) := by show _ = _; unfold QS.inHead; simp only; rw [if_neg c0, if_pos c1, if_pos ⟨hfi, c2⟩, if_pos c3]
          obtain ⟨c3a, c3b⟩ := c3
          rw [c3b] at q7
          have k1 := K.out.set 2 (.int .i64 0) { s with head := s.head + 1, target := 0 } rfl rfl rfl rfl
          have K3 := Lib.hid (k1.set 7 (.string ⟨#[63]⟩) { s with head := s.head + 1, target := 0, meth := [63] } rfl rfl rfl rfl)
          have M3 := Lib.hid ((M.out.trans (K.out.mvSet 2 (.int .i64 0))).trans (k1.mvSet 7 (.string ⟨#[63]⟩)))
          clear c0 c1 c2 c3b hfi k1
          go_upto_region 13 with (fail)
          clear q1 q2 q3 q7 q10 f2 f7 K M
          generalize (wz.setCell ⟨rd, 2, none⟩ (.int .i64 0)).setCell ⟨rd, 7, none⟩ (.string ⟨#[63]⟩) = wy at K3 M3 ⊢
          have q4 : wy.cell? ⟨rd, 4, none⟩ = some (.slice al s.line.length cl) := cell_of_heap K3.out.box
          have hltz9 := K3.out.lt
          go_wp2_with (refine wpList_append_lies _ rfl _ _ 41 rfl 0 5 i0 _ 1 1 Tryz.underlying41 hi hz0 hz1 hz2 rfl (by decide) (.slice al s.line.length cl) s.line.length (Lib.byteCells s.line) rfl (K3.out.line.alloc _) ⟨wy.heap.size, 0, none⟩ 1 1 [.int .u8 b.toNat] rfl rfl (fun j u hj => cells_new _ _ _ _ _ (by simpa using hj)) (by simp [Value.oneCell']) (by decide) (by simp only [maxLen]; omega) (by omega) (Nat.zero_le _) _ rfl ?_)
          intro g cap w2 hown hgr hat hlt2
          have hIa := K3.out.later (below_alloc (Below.refl _ _) (Nat.le_refl _) (.cells #[.int .u8 b.toNat] 5))
          have hbx := hIa.past hIa.oL hgr
          have q4 : w2.cell? ⟨rd, 4, none⟩ = some (.slice al s.line.length cl) := cell_of_heap hbx
          have f4 : w2.frozen? ⟨rd, 4, none⟩ = false := free_of_heap hbx
          have hP := hIa.pushLine (s' := ({ s with head := s.head + 1, target := 0, meth := [63] } : QS).put b) hown hgr (by rw [World.size_alloc]; exact hat) hlt2 rfl ⟨by simp [QS.put], byteCells_snoc _ _⟩ rfl rfl
          have HP := Lib.hid hP.1
          have HM := Lib.hid (M3.out.trans ((Xv.of_below (below_alloc (Below.refl _ _) (Nat.le_refl _) _)).trans hP.2))
          have HX := Lib.hid hbx
          clear hIa hP hown hgr hat hbx
          go_wp2_with fail
          first | go_end0 | (refine bodyPost_ret (results_none rfl _ _ _) rfl ?_)
          rw [HR.out, List.append_nil]
          exact ⟨rfl, _, ⟨_, _, _, _, HP.out⟩, HM.out⟩
        · have HR : Hid (s.inHead b = (({ s with head := s.head + 1, target := -1 } : QS).put b, [])) := by show _ = _; unfold QS.inHead; simp only; rw [if_neg c0, if_pos c1, if_pos ⟨hfi, c2⟩, if_neg c3]
          have K3 := Lib.hid (K.out.set 2 (.int .i64 (-1)) { s with head := s.head + 1, target := -1 } rfl rfl rfl rfl)
          have M3 := Lib.hid (M.out.trans (K.out.mvSet 2 (.int .i64 (-1))))
          by_cases c4 : s.target < 0
          · have c5 : ¬ s.meth = [] := fun e => c3 ⟨c4, e⟩
            have c5b : (s.meth == []) = false := by rw [beq_eq_false_iff_ne]; exact c5
            clear c0 c1 c2 c3 hfi
            go_upto_region 13 with (fail)
            clear q1 q2 q3 q7 q10 f2 f7 K M
            generalize wz.setCell ⟨rd, 2, none⟩ (.int .i64 (-1)) = wy at K3 M3 ⊢
            have q4 : wy.cell? ⟨rd, 4, none⟩ = some (.slice al s.line.length cl) := cell_of_heap K3.out.box
            have hltz9 := K3.out.lt
            go_wp2_with (refine wpList_append_lies _ rfl _ _ 41 rfl 0 5 i0 _ 1 1 Tryz.underlying41 hi hz0 hz1 hz2 rfl (by decide) (.slice al s.line.length cl) s.line.length (Lib.byteCells s.line) rfl (K3.out.line.alloc _) ⟨wy.heap.size, 0, none⟩ 1 1 [.int .u8 b.toNat] rfl rfl (fun j u hj => cells_new _ _ _ _ _ (by simpa using hj)) (by simp [Value.oneCell']) (by decide) (by simp only [maxLen]; omega) (by omega) (Nat.zero_le _) _ rfl ?_)
            intro g cap w2 hown hgr hat hlt2
            have hIa := K3.out.later (below_alloc (Below.refl _ _) (Nat.le_refl _) (.cells #[.int .u8 b.toNat] 5))
            have hbx := hIa.past hIa.oL hgr
            have q4 : w2.cell? ⟨rd, 4, none⟩ = some (.slice al s.line.length cl) := cell_of_heap hbx
            have f4 : w2.frozen? ⟨rd, 4, none⟩ = false := free_of_heap hbx
            have hP := hIa.pushLine (s' := ({ s with head := s.head + 1, target := -1 } : QS).put b) hown hgr (by rw [World.size_alloc]; exact hat) hlt2 rfl ⟨by simp [QS.put], byteCells_snoc _ _⟩ rfl rfl
            have HP := Lib.hid hP.1
            have HM := Lib.hid (M3.out.trans ((Xv.of_below (below_alloc (Below.refl _ _) (Nat.le_refl _) _)).trans hP.2))
            have HX := Lib.hid hbx
            clear hIa hP hown hgr hat hbx
            go_wp2_with fail
            first | go_end0 | (refine bodyPost_ret (results_none rfl _ _ _) rfl ?_)
            rw [HR.out, List.append_nil]
            exact ⟨rfl, _, ⟨_, _, _, _, HP.out⟩, HM.out⟩
          · have c4n : 0 ≤ s.target := by omega
            clear c0 c1 c2 c3 hfi c4
            go_upto_region 13 with (fail)
            clear q1 q2 q3 q7 q10 f2 f7 K M
            generalize wz.setCell ⟨rd, 2, none⟩ (.int .i64 (-1)) = wy at K3 M3 ⊢
            have q4 : wy.cell? ⟨rd, 4, none⟩ = some (.slice al s.line.length cl) := cell_of_heap K3.out.box
            have hltz9 := K3.out.lt
            go_wp2_with (refine wpList_append_lies _ rfl _ _ 41 rfl 0 5 i0 _ 1 1 Tryz.underlying41 hi hz0 hz1 hz2 rfl (by decide) (.slice al s.line.length cl) s.line.length (Lib.byteCells s.line) rfl (K3.out.line.alloc _) ⟨wy.heap.size, 0, none⟩ 1 1 [.int .u8 b.toNat] rfl rfl (fun j u hj => cells_new _ _ _ _ _ (by simpa using hj)) (by simp [Value.oneCell']) (by decide) (by simp only [maxLen]; omega) (by omega) (Nat.zero_le _) _ rfl ?_)
            intro g cap w2 hown hgr hat hlt2
            have hIa := K3.out.later (below_alloc (Below.refl _ _) (Nat.le_refl _) (.cells #[.int .u8 b.toNat] 5))
            have hbx := hIa.past hIa.oL hgr
            have q4 : w2.cell? ⟨rd, 4, none⟩ = some (.slice al s.line.length cl) := cell_of_heap hbx
            have f4 : w2.frozen? ⟨rd, 4, none⟩ = false := free_of_heap hbx
            have hP := hIa.pushLine (s' := ({ s with head := s.head + 1, target := -1 } : QS).put b) hown hgr (by rw [World.size_alloc]; exact hat) hlt2 rfl ⟨by simp [QS.put], byteCells_snoc _ _⟩ rfl rfl
            have HP := Lib.hid hP.1
            have HM := Lib.hid (M3.out.trans ((Xv.of_below (below_alloc (Below.refl _ _) (Nat.le_refl _) _)).trans hP.2))
            have HX := Lib.hid hbx
            clear hIa hP hown hgr hat hbx
            go_wp2_with fail
            first | go_end0 | (refine bodyPost_ret (results_none rfl _ _ _) rfl ?_)
            rw [HR.out, List.append_nil]
            exact ⟨rfl, _, ⟨_, _, _, _, HP.out⟩, HM.out⟩
      · have hb32 : ((b.toNat : Int) == 32) = false := toNat_ne (n := 32) (by decide) c2
        by_cases c3 : 0 ≤ s.target
        · have K3 := Lib.hid (K.out.set 2 (.int .i64 (s.target + 1)) { s with head := s.head + 1, target := s.target + 1 } rfl rfl rfl rfl)
          have M3 := Lib.hid (M.out.trans (K.out.mvSet 2 (.int .i64 (s.target + 1))))
          by_cases c4 : 2000 < s.target + 1
          · have HR : Hid (s.inHead b = (({ s with head := s.head + 1, target := s.target + 1 } : QS).no 66, [])) := by show _ = _; unfold QS.inHead; simp only; rw [if_neg c0, if_pos c1, if_neg (fun x => c2 x.2), if_pos ⟨hfi, c3⟩, if_pos c4]
            clear c0 c1 c2 hfi
            go_upto_region 12 with (fail)
            clear q1 q2 q3 q7 q10 f2 f7 K M
            generalize wz.setCell ⟨rd, 2, none⟩ (.int .i64 (s.target + 1)) = wy at K3 M3 ⊢
            go_wp2_with fail
            refine (no_any ⟨_, _, _, _, K3.out⟩ 66).mono ?_
            rintro e w7 ⟨rfl, ms7, r7, m7⟩
            go_wp2_with fail
            first | go_end0 | (refine bodyPost_ret (results_none rfl _ _ _) rfl ?_)
            rw [HR.out, List.append_nil]
            exact ⟨rfl, ms7, r7, M3.out.trans m7⟩
          · have HR : Hid (s.inHead b = (({ s with head := s.head + 1, target := s.target + 1 } : QS).put b, [])) := by show _ = _; unfold QS.inHead; simp only; rw [if_neg c0, if_pos c1, if_neg (fun x => c2 x.2), if_pos ⟨hfi, c3⟩, if_neg c4]
            have c4n : s.target + 1 ≤ 2000 := by omega
            clear c0 c1 c2 hfi c4
            go_upto_region 13 with (fail)
            clear q1 q2 q3 q7 q10 f2 f7 K M
            generalize wz.setCell ⟨rd, 2, none⟩ (.int .i64 (s.target + 1)) = wy at K3 M3 ⊢
            have q4 : wy.cell? ⟨rd, 4, none⟩ = some (.slice al s.line.length cl) := cell_of_heap K3.out.box
            have hltz9 := K3.out.lt
            go_wp2_with (refine wpList_append_lies _ rfl _ _ 41 rfl 0 5 i0 _ 1 1 Tryz.underlying41 hi hz0 hz1 hz2 rfl (by decide) (.slice al s.line.length cl) s.line.length (Lib.byteCells s.line) rfl (K3.out.line.alloc _) ⟨wy.heap.size, 0, none⟩ 1 1 [.int .u8 b.toNat] rfl rfl (fun j u hj => cells_new _ _ _ _ _ (by simpa using hj)) (by simp [Value.oneCell']) (by decide) (by simp only [maxLen]; omega) (by omega) (Nat.zero_le _) _ rfl ?_)
            intro g cap w2 hown hgr hat hlt2
            have hIa := K3.out.later (below_alloc (Below.refl _ _) (Nat.le_refl _) (.cells #[.int .u8 b.toNat] 5))
            have hbx := hIa.past hIa.oL hgr
            have q4 : w2.cell? ⟨rd, 4, none⟩ = some (.slice al s.line.length cl) := cell_of_heap hbx
            have f4 : w2.frozen? ⟨rd, 4, none⟩ = false := free_of_heap hbx
            have hP := hIa.pushLine (s' := ({ s with head := s.head + 1, target := s.target + 1 } : QS).put b) hown hgr (by rw [World.size_alloc]; exact hat) hlt2 rfl ⟨by simp [QS.put], byteCells_snoc _ _⟩ rfl rfl
            have HP := Lib.hid hP.1
            have HM := Lib.hid (M3.out.trans ((Xv.of_below (below_alloc (Below.refl _ _) (Nat.le_refl _) _)).trans hP.2))
            have HX := Lib.hid hbx
            clear hIa hP hown hgr hat hbx
            go_wp2_with fail
            first | go_end0 | (refine bodyPost_ret (results_none rfl _ _ _) rfl ?_)
            rw [HR.out, List.append_nil]
            exact ⟨rfl, _, ⟨_, _, _, _, HP.out⟩, HM.out⟩
        · have HR : Hid (s.inHead b = (({ s with head := s.head + 1 } : QS).put b, [])) := by show _ = _; unfold QS.inHead; simp only; rw [if_neg c0, if_pos c1, if_neg (fun x => c2 x.2), if_neg (fun x => c3 x.2)]
          have c3n : s.target < 0 := by omega
          clear c0 c1 c2 c3 hfi
          have q4 : wz.cell? ⟨rd, 4, none⟩ = some (.slice al s.line.length cl) := cell_of_heap K.out.box
          have hltz9 := K.out.lt
          go_wp2_with (refine wpList_append_lies _ rfl _ _ 41 rfl 0 5 i0 _ 1 1 Tryz.underlying41 hi hz0 hz1 hz2 rfl (by decide) (.slice al s.line.length cl) s.line.length (Lib.byteCells s.line) rfl (K.out.line.alloc _) ⟨wz.heap.size, 0, none⟩ 1 1 [.int .u8 b.toNat] rfl rfl (fun j u hj => cells_new _ _ _ _ _ (by simpa using hj)) (by simp [Value.oneCell']) (by decide) (by simp only [maxLen]; omega) (by omega) (Nat.zero_le _) _ rfl ?_)
          intro g cap w2 hown hgr hat hlt2
          have hIa := K.out.later (below_alloc (Below.refl _ _) (Nat.le_refl _) (.cells #[.int .u8 b.toNat] 5))
          have hbx := hIa.past hIa.oL hgr
          have q4 : w2.cell? ⟨rd, 4, none⟩ = some (.slice al s.line.length cl) := cell_of_heap hbx
          have f4 : w2.frozen? ⟨rd, 4, none⟩ = false := free_of_heap hbx
          have hP := hIa.pushLine (s' := ({ s with head := s.head + 1 } : QS).put b) hown hgr (by rw [World.size_alloc]; exact hat) hlt2 rfl ⟨by simp [QS.put], byteCells_snoc _ _⟩ rfl rfl
          have HP := Lib.hid hP.1
          have HM := Lib.hid (M.out.trans ((Xv.of_below (below_alloc (Below.refl _ _) (Nat.le_refl _) _)).trans hP.2))
          have HX := Lib.hid hbx
          clear hIa hP hown hgr hat hbx
          go_wp2_with fail
          first | go_end0 | (refine bodyPost_ret (results_none rfl _ _ _) rfl ?_)
          rw [HR.out, List.append_nil]
          exact ⟨rfl, _, ⟨_, _, _, _, HP.out⟩, HM.out⟩
  case pos =>
  subst c1
  have q4 : wz.cell? ⟨rd, 4, none⟩ = some (.slice al s.line.length cl) := cell_of_heap K.out.box
  have f4 : wz.frozen? ⟨rd, 4, none⟩ = false := free_of_heap K.out.box
  have HTM := Lib.hid (trimmed_any s.line _ wz K.out.line (by omega))
  have K3 := Lib.hid K.out.nilLine
  have M3 := Lib.hid (M.out.trans (K.out.mvSet 4 (.slice none 0 0)))
  have htl := trimCR_len s.line
  have HIH : Hid (s.inHead 10 = if s.first = true ∧ trimCR s.line = [] then (({ s with head := s.head + 1, line := [] } : QS).anew, []) else if s.first = true then (({ s with head := s.head + 1, line := [] } : QS).start (trimCR s.line), []) else if trimCR s.line = [] then ({ s with head := s.head + 1, line := [] } : QS).ends else if 50 ≤ s.fields.length then (({ s with head := s.head + 1, line := [] } : QS).no 67, []) else (({ s with head := s.head + 1, line := [] } : QS).field (trimCR s.line), [])) := by
    show _ = _
    unfold QS.inHead
    simp only
    rw [if_neg c0, if_neg (by simp)]
  generalize trimCR s.line = T at *
  have hb10 : ((((10 : UInt8).toNat : Nat) : Int) != 10) = false := rfl
  clear c0
  go_wp2_with fail
  refine HTM.out.mono ?_
  rintro e w3 ⟨rfl, rfl⟩
  go_upto_region 17 with (fail)
  clear q1 q2 f2 q3 q4 f4 q7 f7 q10 K M HTM
  generalize w3.setCell ⟨rd, 4, none⟩ (.slice none 0 0) = wy at K3 M3 ⊢
  have q3 : wy.cell? ⟨rd, 3, none⟩ = some (.bool s.first) := cell_of_heap K3.out.box
  have q10 : wy.cell? ⟨rd, 10, none⟩ = some (.slice af s.fields.length cf) := cell_of_heap K3.out.box
  obtain ⟨fi, hfi⟩ : ∃ x, s.first = x := ⟨_, rfl⟩
  rw [hfi] at q3
  by_cases hT : T = []
  · subst hT
    cases fi with
    | true =>
      have HR : Hid (s.inHead 10 = (({ s with head := s.head + 1, line := [] } : QS).anew, [])) := by show _ = _; rw [HIH.out, if_pos ⟨hfi, rfl⟩]
      clear hfi HIH
      have HAN := Lib.hid (anew_any K3.out.toRefO)
      go_wp2_with fail
      refine HAN.out.mono ?_
      rintro e w7 ⟨rfl, r7, m7⟩
      go_wp2_with fail
      first | go_end0 | (refine bodyPost_ret (results_none rfl _ _ _) rfl ?_)
      rw [HR.out, List.append_nil]
      exact ⟨rfl, _, ⟨_, _, _, _, r7⟩, M3.out.trans m7⟩
    | false =>
      have HR : Hid (s.inHead 10 = ({ s with head := s.head + 1, line := [] } : QS).ends) := by show _ = _; rw [HIH.out, if_neg (by rw [hfi]; simp), if_neg (by rw [hfi]; simp), if_pos rfl]
      clear hfi HIH
      have HCX := Lib.hid (rEnds_any (s := { s with head := s.head + 1, line := [] }) ⟨_, _, _, _, K3.out⟩ hmi hfl ho hsh)
      go_wp2_with fail
      refine HCX.out.mono ?_
      rintro e w7 ⟨rfl, ms7, r7, m7⟩
      go_wp2_with fail
      first | go_end0 | (refine bodyPost_ret (results_none rfl _ _ _) rfl ?_)
      rw [HR.out]
      exact ⟨rfl, ms7, r7, M3.out.trans m7⟩
  · have hTb : (T == []) = false := by rw [beq_eq_false_iff_ne]; exact hT
    cases fi with
    | true =>
      have HR : Hid (s.inHead 10 = (({ s with head := s.head + 1, line := [] } : QS).start T, [])) := by show _ = _; rw [HIH.out, if_neg (fun x => hT x.2), if_pos hfi]
      have hff := hf0 hfi
      clear hfi HIH
      have HCX := Lib.hid (start_any (s := { s with head := s.head + 1, line := [] }) ⟨_, _, _, _, K3.out⟩ hff T (by omega))
      go_wp2_with fail
      refine HCX.out.mono ?_
      rintro e w7 ⟨rfl, ms7, r7, m7⟩
      go_wp2_with fail
      first | go_end0 | (refine bodyPost_ret (results_none rfl _ _ _) rfl ?_)
      rw [HR.out, List.append_nil]
      exact ⟨rfl, ms7, r7, M3.out.trans m7⟩
    | false =>
      by_cases h50 : 50 ≤ s.fields.length
      · have HR : Hid (s.inHead 10 = (({ s with head := s.head + 1, line := [] } : QS).no 67, [])) := by show _ = _; rw [HIH.out, if_neg (fun x => hT x.2), if_neg (by rw [hfi]; simp), if_neg hT, if_pos h50]
        have h50z : (50 : Int) ≤ (s.fields.length : Int) := by omega
        clear hfi HIH
        go_wp2_with fail
        refine (no_any ⟨_, _, _, _, K3.out⟩ 67).mono ?_
        rintro e w7 ⟨rfl, ms7, r7, m7⟩
        go_wp2_with fail
        first | go_end0 | (refine bodyPost_ret (results_none rfl _ _ _) rfl ?_)
        rw [HR.out, List.append_nil]
        exact ⟨rfl, ms7, r7, M3.out.trans m7⟩
      · have HR : Hid (s.inHead 10 = (({ s with head := s.head + 1, line := [] } : QS).field T, [])) := by show _ = _; rw [HIH.out, if_neg (fun x => hT x.2), if_neg (by rw [hfi]; simp), if_neg hT, if_neg h50]
        have h50z : (s.fields.length : Int) < 50 := by omega
        clear hfi HIH h50
        have HCX := Lib.hid (rField1_any (s := { s with head := s.head + 1, line := [] }) ⟨_, _, _, _, K3.out⟩ T (by omega) hfl)
        go_wp2_with fail
        refine HCX.out.mono ?_
        rintro e w7 ⟨rfl, ms7, r7, m7⟩
        go_wp2_with fail
        first | go_end0 | (refine bodyPost_ret (results_none rfl _ _ _) rfl ?_)
        rw [HR.out, List.append_nil]
        exact ⟨rfl, ms7, r7, M3.out.trans m7⟩

end Go.Proofs.YtdilmefeofdkmaaGreatDoor
