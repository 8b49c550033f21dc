/-
  WIRE: the document's Byte, New, Feed. (Printed by wip/gen/wxbyte2.py.)
-/
import Derived.Test.YtdilmefeofdkmaaGreatDoorWxHead
import Derived.Test.YtdilmefeofdkmaaGreatDoorWiNew
namespace Go.Proofs.YtdilmefeofdkmaaGreatDoor
open Go.RowKit Go.PlainAid

set_option maxHeartbeats 16000000 in
set_option maxRecDepth 100000 in
theorem rByte_any {w : World} {rd : Nat} {ms : Nat → Prop} {s : QS} {out : List ReqV} (h : RefAt w rd ms s out) (b : UInt8) (hh0 : 0 ≤ s.head) (hh1 : s.head ≤ 1000000) (htt : s.inn = 0 → (s.first = true → -1 ≤ s.target ∧ s.target ≤ 1000000) ∧ (s.first = true → s.fields = [])) (hlf : s.inn = 1 ∨ s.inn = 3 → -1 ≤ s.left ∧ s.left ≤ 1000000) (hbl : s.body.length ≤ 1000000000) (hll : s.line.length ≤ 1000000000) (hmi : s.minor = 0 ∨ s.minor = 1) (hfl : s.fields.length ≤ 1000000) (ho : out.length ≤ 1000000000) (hsh : ∀ f ∈ s.fields, f.2.length ≤ 140737488351232) :
    Calls Tryz.prog 35 #[.pointer (some ⟨rd, 0, none⟩), .int .u8 b.toNat] w fun x w' => x = .returned (.tuple #[]) ∧ RfPost w rd ms (s.byte b).1 (out ++ (s.byte b).2) w' := by
  obtain ⟨i0, hi, hz0, hz1, hz2⟩ := info_byte
  have hb256 := b.toNat_lt
  have HHD := Lib.hid (fun i0 => rHead_any h b hh0 hh1 (htt i0).1 hll hmi (htt i0).2 hfl ho hsh)
  obtain ⟨vo, vl, vf, vb, hI⟩ := h
  obtain ⟨al, cl, rfl⟩ := row_form hI.line
  obtain ⟨ab, cb, rfl⟩ := row_form hI.body
  have K := Lib.hid hI
  have M := Lib.hid (Xv.refl w ms)
  have q0 : w.cell? ⟨rd, 0, none⟩ = some (.int .i64 s.inn) := cell_of_heap hI.box
  have f0 : w.frozen? ⟨rd, 0, none⟩ = false := free_of_heap hI.box
  have q4 : w.cell? ⟨rd, 4, none⟩ = some (.slice al s.line.length cl) := cell_of_heap hI.box
  have f4 : w.frozen? ⟨rd, 4, none⟩ = false := free_of_heap hI.box
  have q5 : w.cell? ⟨rd, 5, none⟩ = some (.slice ab s.body.length cb) := cell_of_heap hI.box
  have q6 : w.cell? ⟨rd, 6, none⟩ = some (.int .i64 s.left) := cell_of_heap hI.box
  clear hI
  go_enter Tryz.func35, Tryz.ntmps35
  by_cases i0c : s.inn = 0
  · have HR : Hid (s.byte b = s.inHead b) := by show _ = _; unfold QS.byte; rw [if_pos i0c]
    have hb := beq_int_true i0c
    have HHE := Lib.hid (HHD.out i0c)
    clear i0c HHD
    go_wp2_with fail
    refine HHE.out.mono ?_
    rintro e w7 ⟨rfl, ms7, r7, m7⟩
    go_wp2_with fail
    first | go_end0 | (refine bodyPost_ret (results_none rfl _ _ _) rfl ?_)
    rw [HR.out]
    exact ⟨rfl, ms7, r7, m7⟩
  have hb0 := beq_int_false i0c
  clear HHD
  by_cases i13 : s.inn = 1 ∨ s.inn = 3
  · have HRB : Hid (s.byte b = s.inBody b) := by show _ = _; unfold QS.byte; rw [if_neg i0c, if_pos i13]
    obtain ⟨hlf0, hlf1⟩ := hlf i13
    by_cases i1 : s.inn = 1
    · have hb1 := beq_int_true i1
      clear i13
      have q4 : w.cell? ⟨rd, 5, none⟩ = some (.slice ab s.body.length cb) := cell_of_heap K.out.box
      have hltz9 := K.out.lt
      go_wp2_with (refine wpList_append_lies _ rfl _ _ 41 rfl 0 5 i0 _ 1 1 Tryz.underlying41 hi hz0 hz1 hz2 rfl (by decide) (.slice ab s.body.length cb) s.body.length (Lib.byteCells s.body) rfl (K.out.body.alloc _) ⟨w.heap.size, 0, none⟩ 1 1 [.int .u8 b.toNat] rfl rfl (fun j u hj => cells_new _ _ _ _ _ (by simpa using hj)) (by simp [Value.oneCell']) (by decide) (by simp only [maxLen]; omega) (by omega) (Nat.zero_le _) _ rfl ?_)
      intro g cap w2 hown hgr hat hlt2
      have hIa := K.out.later (below_alloc (Below.refl _ _) (Nat.le_refl _) (.cells #[.int .u8 b.toNat] 5))
      have hbx := hIa.past hIa.oB hgr
      have q4 : w2.cell? ⟨rd, 5, none⟩ = some (.slice ab s.body.length cb) := cell_of_heap hbx
      have f4 : w2.frozen? ⟨rd, 5, none⟩ = false := free_of_heap hbx
      have hP := hIa.pushBody (s' := { s with body := s.body ++ [b] }) hown hgr (by rw [World.size_alloc]; exact hat) hlt2 rfl ⟨by simp [QS.put], byteCells_snoc _ _⟩ rfl rfl
      have HP := Lib.hid hP.1
      have HM := Lib.hid (M.out.trans ((Xv.of_below (below_alloc (Below.refl _ _) (Nat.le_refl _) _)).trans hP.2))
      have HX := Lib.hid hbx
      clear hIa hP hown hgr hat hbx
      have q6 : w2.cell? ⟨rd, 6, none⟩ = some (.int .i64 s.left) := cell_of_heap HX.out
      have f6 : w2.frozen? ⟨rd, 6, none⟩ = false := free_of_heap HX.out
      have k6 := HP.out.set 6 (.int .i64 (s.left - 1)) { s with body := s.body ++ [b], left := s.left - 1 } rfl rfl rfl rfl
      have K6 := Lib.hid k6
      have M6 := Lib.hid (HM.out.trans (HP.out.mvSet 6 (.int .i64 (s.left - 1))))
      clear k6
      go_upto_region 18 with (fail)
      clear q0 f0 q4 f4 q5 q6 f6 K M HP HM HX
      generalize (w2.setCell ⟨rd, 5, none⟩ (.slice (some ⟨g, 0, none⟩) (s.body.length + 1) cap)).setCell ⟨rd, 6, none⟩ (.int .i64 (s.left - 1)) = wy at K6 M6 ⊢
      have q0 : wy.cell? ⟨rd, 0, none⟩ = some (.int .i64 s.inn) := cell_of_heap K6.out.box
      have f0 : wy.frozen? ⟨rd, 0, none⟩ = false := free_of_heap K6.out.box
      have q6 : wy.cell? ⟨rd, 6, none⟩ = some (.int .i64 (s.left - 1)) := cell_of_heap K6.out.box
      by_cases hz : s.left - 1 = 0
      · have hzb := beq_int_true hz
        have HR : Hid (s.byte b = ({ s with body := s.body ++ [b], left := s.left - 1 } : QS).complete) := by show _ = _; rw [HRB.out]; unfold QS.inBody; simp only; rw [if_pos ⟨hz, i1⟩]
        clear hz
        have HCX := Lib.hid (rComplete_any (s := { s with body := s.body ++ [b], left := s.left - 1 }) ⟨_, _, _, _, K6.out⟩ hmi hfl ho hsh)
        go_wp2_with fail
        refine HCX.out.mono ?_
        rintro e w7 ⟨rfl, ms7, r7, m7⟩
        go_wp2_with fail
        first | go_end0 | (refine bodyPost_ret (results_none rfl _ _ _) rfl ?_)
        rw [HR.out]
        exact ⟨rfl, ms7, r7, M6.out.trans m7⟩
      · have hzb := beq_int_false hz
        have HR : Hid (s.byte b = ({ s with body := s.body ++ [b], left := s.left - 1 }, [])) := by show _ = _; rw [HRB.out]; unfold QS.inBody; simp only; rw [if_neg (fun x => hz x.1), if_neg hz]
        clear hz
        go_wp2_with fail
        first | go_end0 | (refine bodyPost_ret (results_none rfl _ _ _) rfl ?_)
        rw [HR.out, List.append_nil]
        exact ⟨rfl, _, ⟨_, _, _, _, K6.out⟩, M6.out⟩
    · have i3 : s.inn = 3 := i13.resolve_left i1
      have hb1 := beq_int_false i1
      have hb3 := beq_int_true i3
      clear i13 i3
      have q4 : w.cell? ⟨rd, 5, none⟩ = some (.slice ab s.body.length cb) := cell_of_heap K.out.box
      have hltz9 := K.out.lt
      go_wp2_with (refine wpList_append_lies _ rfl _ _ 41 rfl 0 5 i0 _ 1 1 Tryz.underlying41 hi hz0 hz1 hz2 rfl (by decide) (.slice ab s.body.length cb) s.body.length (Lib.byteCells s.body) rfl (K.out.body.alloc _) ⟨w.heap.size, 0, none⟩ 1 1 [.int .u8 b.toNat] rfl rfl (fun j u hj => cells_new _ _ _ _ _ (by simpa using hj)) (by simp [Value.oneCell']) (by decide) (by simp only [maxLen]; omega) (by omega) (Nat.zero_le _) _ rfl ?_)
      intro g cap w2 hown hgr hat hlt2
      have hIa := K.out.later (below_alloc (Below.refl _ _) (Nat.le_refl _) (.cells #[.int .u8 b.toNat] 5))
      have hbx := hIa.past hIa.oB hgr
      have q4 : w2.cell? ⟨rd, 5, none⟩ = some (.slice ab s.body.length cb) := cell_of_heap hbx
      have f4 : w2.frozen? ⟨rd, 5, none⟩ = false := free_of_heap hbx
      have hP := hIa.pushBody (s' := { s with body := s.body ++ [b] }) hown hgr (by rw [World.size_alloc]; exact hat) hlt2 rfl ⟨by simp [QS.put], byteCells_snoc _ _⟩ rfl rfl
      have HP := Lib.hid hP.1
      have HM := Lib.hid (M.out.trans ((Xv.of_below (below_alloc (Below.refl _ _) (Nat.le_refl _) _)).trans hP.2))
      have HX := Lib.hid hbx
      clear hIa hP hown hgr hat hbx
      have q6 : w2.cell? ⟨rd, 6, none⟩ = some (.int .i64 s.left) := cell_of_heap HX.out
      have f6 : w2.frozen? ⟨rd, 6, none⟩ = false := free_of_heap HX.out
      have k6 := HP.out.set 6 (.int .i64 (s.left - 1)) { s with body := s.body ++ [b], left := s.left - 1 } rfl rfl rfl rfl
      have K6 := Lib.hid k6
      have M6 := Lib.hid (HM.out.trans (HP.out.mvSet 6 (.int .i64 (s.left - 1))))
      clear k6
      go_upto_region 18 with (fail)
      clear q0 f0 q4 f4 q5 q6 f6 K M HP HM HX
      generalize (w2.setCell ⟨rd, 5, none⟩ (.slice (some ⟨g, 0, none⟩) (s.body.length + 1) cap)).setCell ⟨rd, 6, none⟩ (.int .i64 (s.left - 1)) = wy at K6 M6 ⊢
      have q0 : wy.cell? ⟨rd, 0, none⟩ = some (.int .i64 s.inn) := cell_of_heap K6.out.box
      have f0 : wy.frozen? ⟨rd, 0, none⟩ = false := free_of_heap K6.out.box
      have q6 : wy.cell? ⟨rd, 6, none⟩ = some (.int .i64 (s.left - 1)) := cell_of_heap K6.out.box
      by_cases hz : s.left - 1 = 0
      · have hzb := beq_int_true hz
        have HR : Hid (s.byte b = ({ s with body := s.body ++ [b], left := s.left - 1, inn := 4 }, [])) := by show _ = _; rw [HRB.out]; unfold QS.inBody; simp only; rw [if_neg (fun x => i1 x.2), if_pos hz]
        clear hz
        go_wp2_with fail
        first | go_end0 | (refine bodyPost_ret (results_none rfl _ _ _) rfl ?_)
        rw [HR.out, List.append_nil]
        exact ⟨rfl, _, ⟨_, _, _, _, K6.out.set 0 (.int .i64 4) { s with body := s.body ++ [b], left := s.left - 1, inn := 4 } rfl rfl rfl rfl⟩, M6.out.trans (K6.out.mvSet 0 _)⟩
      · have hzb := beq_int_false hz
        have HR : Hid (s.byte b = ({ s with body := s.body ++ [b], left := s.left - 1 }, [])) := by show _ = _; rw [HRB.out]; unfold QS.inBody; simp only; rw [if_neg (fun x => hz x.1), if_neg hz]
        clear hz
        go_wp2_with fail
        first | go_end0 | (refine bodyPost_ret (results_none rfl _ _ _) rfl ?_)
        rw [HR.out, List.append_nil]
        exact ⟨rfl, _, ⟨_, _, _, _, K6.out⟩, M6.out⟩
  have i1 : ¬ s.inn = 1 := fun e => i13 (.inl e)
  have i3 : ¬ s.inn = 3 := fun e => i13 (.inr e)
  have hb1 := beq_int_false i1
  have hb3 := beq_int_false i3
  by_cases i4 : s.inn = 4
  · have HRB : Hid (s.byte b = (s.inEnd b, [])) := by show _ = _; unfold QS.byte; rw [if_neg i0c, if_neg i13, if_pos i4]
    have hb4 := beq_int_true i4
    clear i0c i13 i1 i3 i4
    by_cases c1 : b = 10
    · have hc1 : ((b.toNat : Int) == 10) = true := toNat_eq (n := 10) c1 (by decide)
      have HR : Hid (s.byte b = ({ s with line := [], inn := 2 }, [])) := by show _ = _; rw [HRB.out]; unfold QS.inEnd; rw [if_pos c1]
      have k1 := K.out.nilLine
      have K2 := Lib.hid (k1.set 0 (.int .i64 2) { s with line := [], inn := 2 } rfl rfl rfl rfl)
      have M2 := Lib.hid ((K.out.mvSet 4 (.slice none 0 0)).trans (k1.mvSet 0 (.int .i64 2)))
      clear k1 c1
      go_wp2_with fail
      first | go_end0 | (refine bodyPost_ret (results_none rfl _ _ _) rfl ?_)
      rw [HR.out, List.append_nil]
      exact ⟨rfl, _, ⟨_, _, _, _, K2.out⟩, M2.out⟩
    · have hc1 : ((b.toNat : Int) == 10) = false := toNat_ne (n := 10) (by decide) c1
      by_cases c2 : b = 13
      · have hc2 : ((b.toNat : Int) == 13) = true := toNat_eq (n := 13) c2 (by decide)
        by_cases c3 : s.line = []
        · have hc3 : ((s.line.length : Int) == 0) = true := by rw [c3]; rfl
          have HR : Hid (s.byte b = (s.put b, [])) := by show _ = _; rw [HRB.out]; unfold QS.inEnd; rw [if_neg c1, if_pos ⟨c2, c3⟩]
          clear c1 c2 c3
          have q4 : w.cell? ⟨rd, 4, none⟩ = some (.slice al s.line.length cl) := cell_of_heap K.out.box
          have hltz9 := K.out.lt
          go_wp2_with (refine wpList_append_lies _ rfl _ _ 41 rfl 0 5 i0 _ 1 1 Tryz.underlying41 hi hz0 hz1 hz2 rfl (by decide) (.slice al s.line.length cl) s.line.length (Lib.byteCells s.line) rfl (K.out.line.alloc _) ⟨w.heap.size, 0, none⟩ 1 1 [.int .u8 b.toNat] rfl rfl (fun j u hj => cells_new _ _ _ _ _ (by simpa using hj)) (by simp [Value.oneCell']) (by decide) (by simp only [maxLen]; omega) (by omega) (Nat.zero_le _) _ rfl ?_)
          intro g cap w2 hown hgr hat hlt2
          have hIa := K.out.later (below_alloc (Below.refl _ _) (Nat.le_refl _) (.cells #[.int .u8 b.toNat] 5))
          have hbx := hIa.past hIa.oL hgr
          have q4 : w2.cell? ⟨rd, 4, none⟩ = some (.slice al s.line.length cl) := cell_of_heap hbx
          have f4 : w2.frozen? ⟨rd, 4, none⟩ = false := free_of_heap hbx
          have hP := hIa.pushLine (s' := s.put b) hown hgr (by rw [World.size_alloc]; exact hat) hlt2 rfl ⟨by simp [QS.put], byteCells_snoc _ _⟩ rfl rfl
          have HP := Lib.hid hP.1
          have HM := Lib.hid (M.out.trans ((Xv.of_below (below_alloc (Below.refl _ _) (Nat.le_refl _) _)).trans hP.2))
          have HX := Lib.hid hbx
          clear hIa hP hown hgr hat hbx
          go_wp2_with fail
          first | go_end0 | (refine bodyPost_ret (results_none rfl _ _ _) rfl ?_)
          rw [HR.out, List.append_nil]
          exact ⟨rfl, _, ⟨_, _, _, _, HP.out⟩, HM.out⟩
        · have hc3 : ((s.line.length : Int) == 0) = false := beq_int_false (fun e => c3 (List.eq_nil_of_length_eq_zero (by omega)))
          have HR : Hid (s.byte b = (s.no 63, [])) := by show _ = _; rw [HRB.out]; unfold QS.inEnd; rw [if_neg c1, if_neg (fun x => c3 x.2)]
          clear c1 c2 c3
          go_wp2_with fail
          refine (no_any ⟨_, _, _, _, K.out⟩ 63).mono ?_
          rintro e w7 ⟨rfl, ms7, r7, m7⟩
          go_wp2_with fail
          first | go_end0 | (refine bodyPost_ret (results_none rfl _ _ _) rfl ?_)
          rw [HR.out, List.append_nil]
          exact ⟨rfl, ms7, r7, M.out.trans m7⟩
      · have hc2 : ((b.toNat : Int) == 13) = false := toNat_ne (n := 13) (by decide) c2
        have HR : Hid (s.byte b = (s.no 63, [])) := by show _ = _; rw [HRB.out]; unfold QS.inEnd; rw [if_neg c1, if_neg (fun x => c2 x.1)]
        clear c1 c2
        go_wp2_with fail
        refine (no_any ⟨_, _, _, _, K.out⟩ 63).mono ?_
        rintro e w7 ⟨rfl, ms7, r7, m7⟩
        go_wp2_with fail
        first | go_end0 | (refine bodyPost_ret (results_none rfl _ _ _) rfl ?_)
        rw [HR.out, List.append_nil]
        exact ⟨rfl, ms7, r7, M.out.trans m7⟩
  have HRB : Hid (s.byte b = s.inLine b) := by show _ = _; unfold QS.byte; rw [if_neg i0c, if_neg i13, if_neg i4]
  have hb4 := beq_int_false i4
  clear i0c i13 i1 i3 i4
  by_cases c1 : b = 10
  case neg =>
    have hc1 : ((b.toNat : Int) == 10) = false := toNat_ne (n := 10) (by decide) c1
    have hc1n : ((b.toNat : Int) != 10) = true := by rw [bne, hc1]; rfl
    have HRL : Hid (s.byte b = (if 200 < s.line.length + 1 then (s.put b).no 63 else s.put b, [])) := by show _ = _; rw [HRB.out]; unfold QS.inLine; rw [if_pos c1]
    clear c1
    have q4 : w.cell? ⟨rd, 4, none⟩ = some (.slice al s.line.length cl) := cell_of_heap K.out.box
    have hltz9 := K.out.lt
    go_wp2_with (refine wpList_append_lies _ rfl _ _ 41 rfl 0 5 i0 _ 1 1 Tryz.underlying41 hi hz0 hz1 hz2 rfl (by decide) (.slice al s.line.length cl) s.line.length (Lib.byteCells s.line) rfl (K.out.line.alloc _) ⟨w.heap.size, 0, none⟩ 1 1 [.int .u8 b.toNat] rfl rfl (fun j u hj => cells_new _ _ _ _ _ (by simpa using hj)) (by simp [Value.oneCell']) (by decide) (by simp only [maxLen]; omega) (by omega) (Nat.zero_le _) _ rfl ?_)
    intro g cap w2 hown hgr hat hlt2
    have hIa := K.out.later (below_alloc (Below.refl _ _) (Nat.le_refl _) (.cells #[.int .u8 b.toNat] 5))
    have hbx := hIa.past hIa.oL hgr
    have q4 : w2.cell? ⟨rd, 4, none⟩ = some (.slice al s.line.length cl) := cell_of_heap hbx
    have f4 : w2.frozen? ⟨rd, 4, none⟩ = false := free_of_heap hbx
    have hP := hIa.pushLine (s' := s.put b) hown hgr (by rw [World.size_alloc]; exact hat) hlt2 rfl ⟨by simp [QS.put], byteCells_snoc _ _⟩ rfl rfl
    have HP := Lib.hid hP.1
    have HM := Lib.hid (M.out.trans ((Xv.of_below (below_alloc (Below.refl _ _) (Nat.le_refl _) _)).trans hP.2))
    have HX := Lib.hid hbx
    clear hIa hP hown hgr hat hbx
    by_cases h200 : 200 < s.line.length + 1
    · have HR : Hid (s.byte b = ((s.put b).no 63, [])) := by show _ = _; rw [HRL.out, if_pos h200]
      have h2z : (200 : Int) < (s.line.length : Int) + 1 := by omega
      clear h200
      have HCX := Lib.hid (no_any ⟨_, _, _, _, HP.out⟩ 63)
      go_wp2_with fail
      refine HCX.out.mono ?_
      rintro e w7 ⟨rfl, ms7, r7, m7⟩
      go_wp2_with fail
      first | go_end0 | (refine bodyPost_ret (results_none rfl _ _ _) rfl ?_)
      rw [HR.out, List.append_nil]
      exact ⟨rfl, ms7, r7, HM.out.trans m7⟩
    · have HR : Hid (s.byte b = (s.put b, [])) := by show _ = _; rw [HRL.out, if_neg h200]
      have h2z : (s.line.length : Int) + 1 ≤ 200 := by omega
      clear h200
      go_wp2_with fail
      first | go_end0 | (refine bodyPost_ret (results_none rfl _ _ _) rfl ?_)
      rw [HR.out, List.append_nil]
      exact ⟨rfl, _, ⟨_, _, _, _, HP.out⟩, HM.out⟩
  case pos =>
  subst c1
  have hc1n : ((((10 : UInt8).toNat : Nat) : Int) != 10) = false := rfl
  have HTM := Lib.hid (trimmed_any s.line _ w K.out.line (by omega))
  have K3 := Lib.hid K.out.nilLine
  have M3 := Lib.hid (K.out.mvSet 4 (.slice none 0 0))
  have htl := trimCR_len s.line
  have HIH : Hid (s.byte 10 = if s.inn = 2 then (({ s with line := [] } : QS).size (trimCR s.line), []) else if trimCR s.line ≠ [] then (({ s with line := [] } : QS).no 63, []) else ({ s with line := [] } : QS).complete) := by
    show _ = _
    rw [HRB.out]
    unfold QS.inLine
    rw [if_neg (by simp)]
  generalize trimCR s.line = T at *
  go_wp2_with fail
  refine HTM.out.mono ?_
  rintro e w3 ⟨rfl, rfl⟩
  go_upto_region 7 with (fail)
  clear q0 f0 q4 f4 q5 q6 K M HTM
  generalize w3.setCell ⟨rd, 4, none⟩ (.slice none 0 0) = wy at K3 M3 ⊢
  have q0 : wy.cell? ⟨rd, 0, none⟩ = some (.int .i64 s.inn) := cell_of_heap K3.out.box
  by_cases i2 : s.inn = 2
  · have HR : Hid (s.byte 10 = (({ s with line := [] } : QS).size T, [])) := by show _ = _; rw [HIH.out, if_pos i2]
    have hb2 := beq_int_true i2
    clear i2 HIH
    have HCX := Lib.hid (rSize_any (s := { s with line := [] }) ⟨_, _, _, _, K3.out⟩ T (by omega) hbl)
    go_wp2_with fail
    refine HCX.out.mono ?_
    rintro e w7 ⟨rfl, ms7, r7, m7⟩
    go_wp2_with fail
    first | go_end0 | (refine bodyPost_ret (results_none rfl _ _ _) rfl ?_)
    rw [HR.out, List.append_nil]
    exact ⟨rfl, ms7, r7, M3.out.trans m7⟩
  have hb2 := beq_int_false i2
  by_cases hT : T = []
  · subst hT
    have HR : Hid (s.byte 10 = ({ s with line := [] } : QS).complete) := by show _ = _; rw [HIH.out, if_neg i2, if_neg (by simp)]
    clear i2 HIH
    have HCX := Lib.hid (rComplete_any (s := { s with line := [] }) ⟨_, _, _, _, K3.out⟩ hmi hfl ho hsh)
    go_wp2_with fail
    refine HCX.out.mono ?_
    rintro e w7 ⟨rfl, ms7, r7, m7⟩
    go_wp2_with fail
    first | go_end0 | (refine bodyPost_ret (results_none rfl _ _ _) rfl ?_)
    rw [HR.out]
    exact ⟨rfl, ms7, r7, M3.out.trans m7⟩
  have hTb : (T == []) = false := by rw [beq_eq_false_iff_ne]; exact hT
  have hTn : (T != []) = true := by rw [bne, hTb]; rfl
  have HR : Hid (s.byte 10 = (({ s with line := [] } : QS).no 63, [])) := by show _ = _; rw [HIH.out, if_neg i2, if_pos hT]
  clear i2 HIH
  go_wp2_with fail
  refine (no_any ⟨_, _, _, _, K3.out⟩ 63).mono ?_
  rintro e w7 ⟨rfl, ms7, r7, m7⟩
  go_wp2_with fail
  first | go_end0 | (refine bodyPost_ret (results_none rfl _ _ _) rfl ?_)
  rw [HR.out, List.append_nil]
  exact ⟨rfl, ms7, r7, M3.out.trans m7⟩

end Go.Proofs.YtdilmefeofdkmaaGreatDoor
