/-
  WIRE: the methods that take a byte: bytes, chunk, chunkEnd, last, first. (Printed by wip/gen/wim3.py.)
-/
import Derived.Test.YtdilmefeofdkmaaGreatDoorWiReq
namespace Go.Proofs.YtdilmefeofdkmaaGreatDoor
open Go.RowKit

theorem beq_int_true {a b : Int} (h : a = b) : (a == b) = true := by rw [beq_iff_eq]; exact h
theorem beq_int_false {a b : Int} (h : ¬ a = b) : (a == b) = false := by rw [beq_eq_false_iff_ne]; exact h
theorem toNat_ne {b : UInt8} {n : Nat} (hn : n < 256) (h : ¬ b = UInt8.ofNat n) : ((b.toNat : Int) == (n : Int)) = false := by
  apply beq_int_false
  intro e
  apply h
  apply UInt8.toNat_inj.1
  simp
  omega

set_option maxHeartbeats 2000000 in
set_option maxRecDepth 100000 in
theorem bytes_any {w : World} {rd : Nat} {ms : Own} {s : RS} {out : List ReqV} (h : RdrAt w rd ms s out) (b : UInt8) (hl : s.body.length ≤ 1000000000) (h0 : -1 ≤ s.left) (h1 : s.left ≤ 1000000) (hfl : s.fields.length ≤ 1000000) (ho : out.length ≤ 1000000000) (hsh : ∀ f ∈ s.fields, f.2.length ≤ 140737488351232) :
    Calls Tryz.prog 116 #[.pointer (some ⟨rd, 0, none⟩), .int .u8 b.toNat] w fun x w' => x = .returned (.tuple #[]) ∧ RdPost w rd ms (s.bytes b).1 (out ++ (s.bytes b).2) w' := by
  obtain ⟨i0, hi, hz0, hz1, hz2⟩ := info_byte
  have hb256 := b.toNat_lt
  obtain ⟨vo, vl, vf, vb, hI⟩ := h
  obtain ⟨a, c, rfl⟩ := row_form hI.body
  have K := Lib.hid hI
  have q14 : w.cell? ⟨rd, 14, none⟩ = some (.slice a s.body.length c) := cell_of_heap hI.box
  have hlt := hI.lt
  clear hI
  go_enter Tryz.func116, Tryz.ntmps116
  go_wp2_with (refine wpList_append_lies _ rfl _ _ 41 rfl 0 5 i0 _ 1 1 Tryz.underlying41 hi hz0 hz1 hz2 rfl (by decide) (.slice a s.body.length c) s.body.length (Lib.byteCells s.body) rfl (K.out.body.alloc _) ⟨w.heap.size, 0, none⟩ 1 1 [.int .u8 b.toNat] rfl rfl (fun j u hj => cells_new _ _ _ _ _ (by simpa using hj)) (by simp [Value.oneCell']) (by decide) (by simp only [maxLen]; omega) (by omega) (Nat.zero_le _) _ rfl ?_)
  intro g cap w2 hown hgr hat hlt2
  have hIa := K.out.later (below_alloc (Below.refl _ _) (Nat.le_refl _) (.cells #[.int .u8 b.toNat] 5))
  have hbx := hIa.past hIa.oB hgr
  have q14 : w2.cell? ⟨rd, 14, none⟩ = some (.slice a s.body.length c) := cell_of_heap hbx
  have f14 : w2.frozen? ⟨rd, 14, none⟩ = false := free_of_heap hbx
  have hP := hIa.pushBody (s' := { s with body := s.body ++ [b] }) hown hgr (by rw [World.size_alloc]; exact hat) hlt2 rfl ⟨by simp [RS.put], byteCells_snoc _ _⟩ rfl rfl
  have HP := Lib.hid hP.1
  have HM := Lib.hid ((Mv.refl w ms).trans ((Mv.of_below (below_alloc (Below.refl _ _) (Nat.le_refl _) _)).trans hP.2))
  have HX := Lib.hid hbx
  clear hIa hbx hP hown hgr hat
  have q15 : w2.cell? ⟨rd, 15, none⟩ = some (.int .i64 s.left) := cell_of_heap HX.out
  have f15 : w2.frozen? ⟨rd, 15, none⟩ = false := free_of_heap HX.out
  have h2 := HP.out.set 15 (.int .i64 (s.left - 1)) { s with body := s.body ++ [b], left := s.left - 1 } rfl rfl rfl rfl
  have K2 := Lib.hid h2
  have M2 := Lib.hid (HM.out.trans (HP.out.mvSet 15 (.int .i64 (s.left - 1))))
  clear h2 HM
  by_cases hz : s.left - 1 = 0
  · have hz' := beq_int_true hz
    have HC := Lib.hid (complete_any ⟨_, _, _, _, K2.out⟩ hfl ho hsh)
    have HR : Hid (s.bytes b = RS.complete { s with body := s.body ++ [b], left := s.left - 1 }) := by show _ = _; unfold RS.bytes; simp only; rw [if_pos hz]
    clear hz
    go_wp2_with fail
    refine HC.out.mono ?_
    rintro e w3 ⟨rfl, ms3, r3, m3⟩
    go_wp2_with fail
    go_end0
    rw [HR.out]
    exact ⟨rfl, ms3, r3, M2.out.trans m3⟩
  · have hz' := beq_int_false hz
    have HR : Hid (s.bytes b = ({ s with body := s.body ++ [b], left := s.left - 1 }, [])) := by show _ = _; unfold RS.bytes; simp only; rw [if_neg hz]
    clear hz
    go_wp2_with fail
    go_end0
    rw [HR.out, List.append_nil]
    exact ⟨rfl, _, ⟨_, _, _, _, K2.out⟩, M2.out⟩

set_option maxHeartbeats 2000000 in
set_option maxRecDepth 100000 in
theorem chunk_any {w : World} {rd : Nat} {ms : Own} {s : RS} {out : List ReqV} (h : RdrAt w rd ms s out) (b : UInt8) (hl : s.body.length ≤ 1000000000) (h0 : -1 ≤ s.left) (h1 : s.left ≤ 1000000) :
    Calls Tryz.prog 134 #[.pointer (some ⟨rd, 0, none⟩), .int .u8 b.toNat] w fun x w' => x = .returned (.tuple #[]) ∧ RdPost w rd ms (s.chunk b) out w' := by
  obtain ⟨i0, hi, hz0, hz1, hz2⟩ := info_byte
  have hb256 := b.toNat_lt
  obtain ⟨vo, vl, vf, vb, hI⟩ := h
  obtain ⟨a, c, rfl⟩ := row_form hI.body
  have K := Lib.hid hI
  have q14 : w.cell? ⟨rd, 14, none⟩ = some (.slice a s.body.length c) := cell_of_heap hI.box
  have hlt := hI.lt
  clear hI
  go_enter Tryz.func134, Tryz.ntmps134
  go_wp2_with (refine wpList_append_lies _ rfl _ _ 41 rfl 0 5 i0 _ 1 1 Tryz.underlying41 hi hz0 hz1 hz2 rfl (by decide) (.slice a s.body.length c) s.body.length (Lib.byteCells s.body) rfl (K.out.body.alloc _) ⟨w.heap.size, 0, none⟩ 1 1 [.int .u8 b.toNat] rfl rfl (fun j u hj => cells_new _ _ _ _ _ (by simpa using hj)) (by simp [Value.oneCell']) (by decide) (by simp only [maxLen]; omega) (by omega) (Nat.zero_le _) _ rfl ?_)
  intro g cap w2 hown hgr hat hlt2
  have hIa := K.out.later (below_alloc (Below.refl _ _) (Nat.le_refl _) (.cells #[.int .u8 b.toNat] 5))
  have hbx := hIa.past hIa.oB hgr
  have q14 : w2.cell? ⟨rd, 14, none⟩ = some (.slice a s.body.length c) := cell_of_heap hbx
  have f14 : w2.frozen? ⟨rd, 14, none⟩ = false := free_of_heap hbx
  have hP := hIa.pushBody (s' := { s with body := s.body ++ [b] }) hown hgr (by rw [World.size_alloc]; exact hat) hlt2 rfl ⟨by simp [RS.put], byteCells_snoc _ _⟩ rfl rfl
  have HP := Lib.hid hP.1
  have HM := Lib.hid ((Mv.refl w ms).trans ((Mv.of_below (below_alloc (Below.refl _ _) (Nat.le_refl _) _)).trans hP.2))
  have HX := Lib.hid hbx
  clear hIa hbx hP hown hgr hat
  have q15 : w2.cell? ⟨rd, 15, none⟩ = some (.int .i64 s.left) := cell_of_heap HX.out
  have f15 : w2.frozen? ⟨rd, 15, none⟩ = false := free_of_heap HX.out
  have q0 : w2.cell? ⟨rd, 0, none⟩ = some (nextV rd s.mode) := cell_of_heap HX.out
  have f0 : w2.frozen? ⟨rd, 0, none⟩ = false := free_of_heap HX.out
  have h2 := HP.out.set 15 (.int .i64 (s.left - 1)) { s with body := s.body ++ [b], left := s.left - 1 } rfl rfl rfl rfl
  have K2 := Lib.hid h2
  have M2 := Lib.hid (HM.out.trans (HP.out.mvSet 15 (.int .i64 (s.left - 1))))
  clear h2 HM
  by_cases hz : s.left - 1 = 0
  · have hz' := beq_int_true hz
    have HR : Hid (s.chunk b = { s with body := s.body ++ [b], left := -1, mode := .chunkEnd }) := by show _ = _; unfold RS.chunk; simp only; rw [if_pos hz]
    clear hz
    go_wp2_with fail
    go_end0
    have k3 := K2.out.set 15 (.int .i64 (-1)) { s with body := s.body ++ [b], left := -1 } rfl rfl rfl rfl
    have k4 := k3.set 0 (nextV rd .chunkEnd) { s with body := s.body ++ [b], left := -1, mode := .chunkEnd } rfl rfl rfl rfl
    rw [HR.out]
    exact ⟨rfl, _, ⟨_, _, _, _, k4⟩, (M2.out.trans (K2.out.mvSet 15 _)).trans (k3.mvSet 0 _)⟩
  · have hz' := beq_int_false hz
    have HR : Hid (s.chunk b = { s with body := s.body ++ [b], left := s.left - 1 }) := by show _ = _; unfold RS.chunk; simp only; rw [if_neg hz]
    clear hz
    go_wp2_with fail
    go_end0
    rw [HR.out]
    exact ⟨rfl, _, ⟨_, _, _, _, K2.out⟩, M2.out⟩

set_option maxHeartbeats 2000000 in
set_option maxRecDepth 100000 in
theorem chunkEnd_any {w : World} {rd : Nat} {ms : Own} {s : RS} {out : List ReqV} (h : RdrAt w rd ms s out) (b : UInt8) (hl : s.line.length ≤ 1000000000) :
    Calls Tryz.prog 148 #[.pointer (some ⟨rd, 0, none⟩), .int .u8 b.toNat] w fun x w' => x = .returned (.tuple #[]) ∧ RdPost w rd ms (s.chunkEnd b) out w' := by
  obtain ⟨i0, hi, hz0, hz1, hz2⟩ := info_byte
  have hb256 := b.toNat_lt
  have HF := Lib.hid (fail_any h 63)
  obtain ⟨vo, vl, vf, vb, hI⟩ := h
  obtain ⟨a, c, rfl⟩ := row_form hI.line
  have K := Lib.hid hI
  have q4 : w.cell? ⟨rd, 4, none⟩ = some (.slice a s.line.length c) := cell_of_heap hI.box
  have f4 : w.frozen? ⟨rd, 4, none⟩ = false := free_of_heap hI.box
  have q0 : w.cell? ⟨rd, 0, none⟩ = some (nextV rd s.mode) := cell_of_heap hI.box
  have f0 : w.frozen? ⟨rd, 0, none⟩ = false := free_of_heap hI.box
  have hlt := hI.lt
  have hsl : (Instr.sliceAt 41 (.slice a s.line.length c) none (some (.int .i64 0)) none).run Tryz.prog w = .ok (.slice a 0 c) w := by
    go_simp
  clear hI
  by_cases hb : b = 10
  · subst hb
    have k1 := K.out.line0
    have k2 := k1.set 0 (nextV rd .size) { s with line := [], mode := .size } rfl rfl rfl rfl
    have HR : Hid (s.chunkEnd 10 = { s with line := [], mode := .size }) := by show _ = _; unfold RS.chunkEnd; rw [if_pos rfl]
    have K2 := Lib.hid k2
    have M2 := Lib.hid ((K.out.mvSet 4 (.slice a 0 c)).trans (k1.mvSet 0 (nextV rd .size)))
    clear k1 k2
    go_enter Tryz.func148, Tryz.ntmps148
    go_wp2_with fail
    go_end0
    rw [HR.out]
    exact ⟨rfl, _, ⟨_, _, _, _, K2.out⟩, M2.out⟩
  · have hb1 : ((b.toNat : Int) == 10) = false := toNat_ne (n := 10) (by decide) hb
    by_cases hc : b = 13 ∧ s.line = []
    · obtain ⟨hc1, hc2⟩ := hc
      have hb2 : ((b.toNat : Int) == 13) = true := by rw [hc1]; rfl
      have hln : ((s.line.length : Int) == 0) = true := by rw [hc2]; rfl
      have HR : Hid (s.chunkEnd b = s.put b) := by show _ = _; unfold RS.chunkEnd; rw [if_neg hb, if_pos (by rw [hc1, hc2]; rfl)]
      clear hc1 hc2 hb hsl f4
      go_enter Tryz.func148, Tryz.ntmps148
      go_wp2_with (refine wpList_append_lies _ rfl _ _ 41 rfl 0 5 i0 _ 1 1 Tryz.underlying41 hi hz0 hz1 hz2 rfl (by decide) (.slice a s.line.length c) s.line.length (Lib.byteCells s.line) rfl (K.out.line.alloc _) ⟨w.heap.size, 0, none⟩ 1 1 [.int .u8 b.toNat] rfl rfl (fun j u hj => cells_new _ _ _ _ _ (by simpa using hj)) (by simp [Value.oneCell']) (by decide) (by simp only [maxLen]; omega) (by omega) (Nat.zero_le _) _ rfl ?_)
      intro g cap w2 hown hgr hat hlt2
      have hIa := K.out.later (below_alloc (Below.refl _ _) (Nat.le_refl _) (.cells #[.int .u8 b.toNat] 5))
      have hbx := hIa.past hIa.oL hgr
      have q4 : w2.cell? ⟨rd, 4, none⟩ = some (.slice a s.line.length c) := cell_of_heap hbx
      have f4 : w2.frozen? ⟨rd, 4, none⟩ = false := free_of_heap hbx
      have hP := hIa.pushLine (s' := s.put b) hown hgr (by rw [World.size_alloc]; exact hat) hlt2 rfl ⟨by simp [RS.put], byteCells_snoc _ _⟩ rfl rfl
      have HP := Lib.hid hP.1
      have HM := Lib.hid ((Mv.refl w ms).trans ((Mv.of_below (below_alloc (Below.refl _ _) (Nat.le_refl _) _)).trans hP.2))
      have HX := Lib.hid hbx
      clear hIa hbx hP hown hgr hat
      go_wp2_with fail
      go_end0
      rw [HR.out]
      exact ⟨rfl, _, ⟨_, _, _, _, HP.out⟩, HM.out⟩
    · have HR : Hid (s.chunkEnd b = s.fail 63) := by
        show _ = _
        unfold RS.chunkEnd
        rw [if_neg hb, if_neg]
        intro hx
        apply hc
        simpa using hx
      by_cases hc1 : b = 13
      · have hc2 : ¬ s.line = [] := fun e => hc ⟨hc1, e⟩
        have hb2 : ((b.toNat : Int) == 13) = true := by rw [hc1]; rfl
        have hln : ((s.line.length : Int) == 0) = false := beq_int_false (fun e => hc2 (List.eq_nil_of_length_eq_zero (by omega)))
        clear hc hc1 hc2 hb hsl f4
        go_enter Tryz.func148, Tryz.ntmps148
        go_wp2_with fail
        refine HF.out.mono ?_
        rintro e w3 ⟨rfl, hp⟩
        go_wp2_with fail
        go_end0
        rw [HR.out]
        exact ⟨rfl, hp⟩
      · have hb2 : ((b.toNat : Int) == 13) = false := toNat_ne (n := 13) (by decide) hc1
        clear hc hc1 hb hsl f4
        go_enter Tryz.func148, Tryz.ntmps148
        go_wp2_with fail
        refine HF.out.mono ?_
        rintro e w3 ⟨rfl, hp⟩
        go_wp2_with fail
        go_end0
        rw [HR.out]
        exact ⟨rfl, hp⟩

set_option maxHeartbeats 2000000 in
set_option maxRecDepth 100000 in
theorem last_any {w : World} {rd : Nat} {ms : Own} {s : RS} {out : List ReqV} (h : RdrAt w rd ms s out) (b : UInt8) (hl : s.line.length ≤ 1000000000) (hfl : s.fields.length ≤ 1000000) (ho : out.length ≤ 1000000000) (hsh : ∀ f ∈ s.fields, f.2.length ≤ 140737488351232) :
    Calls Tryz.prog 133 #[.pointer (some ⟨rd, 0, none⟩), .int .u8 b.toNat] w fun x w' => x = .returned (.tuple #[]) ∧ RdPost w rd ms (s.last b).1 (out ++ (s.last b).2) w' := by
  have HC := Lib.hid (chunkLine_any h b hl)
  have HR := Lib.hid (show s.last b = (match s.chunkLine b with | (t, none) => (t, []) | (t, some line) => if line ≠ [] then (t.fail 63, []) else t.complete) from rfl)
  have hff : (s.chunkLine b).1.fields = s.fields := by unfold RS.chunkLine; split; rfl; split <;> rfl
  generalize s.chunkLine b = r at *
  obtain ⟨t, o⟩ := r
  simp only at HC HR hff
  rw [← hff] at hfl hsh
  clear h hl
  go_enter Tryz.func133, Tryz.ntmps133
  go_wp2_with fail
  refine HC.out.mono ?_
  rintro e w1 ⟨rfl, ms1, r1, m1⟩
  have M1 := Lib.hid m1
  cases o with
  | none =>
    simp only [Option.isSome_none, Option.getD_none]
    have R1 := Lib.hid r1
    clear r1 m1
    go_wp2_with fail
    go_end0
    rw [HR.out, List.append_nil]
    exact ⟨rfl, ms1, R1.out, M1.out⟩
  | some line =>
    simp only [Option.isSome_some, Option.getD_some]
    by_cases hn : line = []
    · subst hn
      have HK := Lib.hid (complete_any r1 hfl ho hsh)
      have HR2 : Hid (s.last b = t.complete) := by show _ = _; rw [HR.out]; rfl
      clear r1 m1 HR
      go_wp2_with fail
      refine HK.out.mono ?_
      rintro e w2 ⟨rfl, ms2, r2, m2⟩
      go_wp2_with fail
      go_end0
      rw [HR2.out]
      exact ⟨rfl, ms2, r2, M1.out.trans m2⟩
    · have hb1 : (line == []) = false := by rw [beq_eq_false_iff_ne]; exact hn
      have hb2 : (line != []) = true := by simp [bne, hb1]
      have HK := Lib.hid (fail_any r1 63)
      have HR2 : Hid (s.last b = (t.fail 63, [])) := by show _ = _; rw [HR.out]; simp only; rw [if_pos hn]
      clear r1 m1 HR
      go_wp2_with fail
      refine HK.out.mono ?_
      rintro e w2 ⟨rfl, ms2, r2, m2⟩
      go_wp2_with fail
      go_end0
      rw [HR2.out, List.append_nil]
      exact ⟨rfl, ms2, r2, M1.out.trans m2⟩


end Go.Proofs.YtdilmefeofdkmaaGreatDoor
