/-
  WIRE: ended; a byte behind the line, or the body: chunkLine, chunkEnd, chunk.
-/
import Derived.Test.YtdilmefeofdkmaaGreatDoorWiM1
namespace Go.Proofs.YtdilmefeofdkmaaGreatDoor
open Go.RowKit

theorem trimSuffix_cr (l : List UInt8) : Lib.trimSuffix l [13] = trimCR l := by
  rcases List.eq_nil_or_concat l with rfl | ⟨k, b, rfl⟩
  · rfl
  · unfold trimCR Lib.trimSuffix Lib.hasSuffix
    by_cases hb : b = 13
    · subst hb; simp
    · simp [hb]
      exact fun h => absurd h.symm hb

theorem info_pair : ∃ i, Tryz.prog.info? 58 = some i ∧ i.zero = some (.agg #[.string ⟨#[]⟩, .string ⟨#[]⟩]) ∧ i.size = 2 ∧ i.bytes = 32 :=
  info_parts (show (Tryz.prog.info? 58).map (fun i => (i.zero, i.size, i.bytes)) = some (some (.agg #[.string ⟨#[]⟩, .string ⟨#[]⟩]), 2, 32) by kernel_rfl)
theorem info_byte : ∃ i, Tryz.prog.info? 5 = some i ∧ i.zero = some (.int .u8 0) ∧ i.size = 1 ∧ i.bytes = 1 :=
  info_parts (show (Tryz.prog.info? 5).map (fun i => (i.zero, i.size, i.bytes)) = some (some (.int .u8 0), 1, 1) by kernel_rfl)

theorem trimCR_len (l : List UInt8) : (trimCR l).length ≤ l.length := by
  unfold trimCR
  split <;> simp

set_option maxHeartbeats 1000000 in
set_option maxRecDepth 100000 in
theorem ended_any {w : World} {rd : Nat} {ms : Own} {s : RS} {out : List ReqV} (h : RdrAt w rd ms s out) (hl : s.line.length ≤ 140737488351232) :
    Calls Tryz.prog 76 #[.pointer (some ⟨rd, 0, none⟩)] w fun x w' => x = .returned (.string ⟨(trimCR s.line).toArray⟩) ∧ RdPost w rd ms { s with line := [] } out w' := by
  obtain ⟨vo, vl, vf, vb, hI⟩ := h
  obtain ⟨a, c, rfl⟩ := row_form hI.line
  have HI := Lib.hid hI
  have q4 : w.cell? ⟨rd, 4, none⟩ = some (.slice a s.line.length c) := cell_of_heap hI.box
  have f4 : w.frozen? ⟨rd, 4, none⟩ = false := free_of_heap hI.box
  have hcv := conv_row hI.line
  have HT : Hid (∀ W, Calls Tryz.prog 94 #[.string ⟨s.line.toArray⟩, .string ⟨#[13]⟩] W fun e w' => e = .returned (.string ⟨(trimCR s.line).toArray⟩) ∧ w' = W) := fun W => by
    have := Tryz.strings_TrimSuffix ⟨s.line.toArray⟩ ⟨#[13]⟩ W (by simp [ByteArray.size]; omega)
    rwa [show Lib.trimSuffix (⟨s.line.toArray⟩ : ByteArray).data.toList (⟨#[13]⟩ : ByteArray).data.toList = trimCR s.line from trimSuffix_cr _] at this
  have hsl : (Instr.sliceAt 41 (.slice a s.line.length c) none (some (.int .i64 0)) none).run Tryz.prog w = .ok (.slice a 0 c) w := by
    go_simp
  clear hI
  go_enter Tryz.func76, Tryz.ntmps76
  go_wp2_with fail
  refine (HT.out _).mono ?_
  rintro e w2 ⟨rfl, rfl⟩
  go_wp2_with fail
  go_ret
  exact ⟨rfl, ms, ⟨_, _, _, _, HI.out.line0⟩, HI.out.mvSet 4 _⟩

/-- an append onto the line or the body wants but a bound -/
theorem byte_cell (b : UInt8) : ((Value.int .u8 (b.toNat : Int)).oneCell' = true) := rfl

set_option maxHeartbeats 1000000 in
set_option maxRecDepth 100000 in
theorem chunkLine_any {w : World} {rd : Nat} {ms : Own} {s : RS} {out : List ReqV} (h : RdrAt w rd ms s out) (b : UInt8) (hl : s.line.length ≤ 1000000000) :
    Calls Tryz.prog 130 #[.pointer (some ⟨rd, 0, none⟩), .int .u8 b.toNat] w fun x w' => x = .returned (.tuple #[.string ⟨((s.chunkLine b).2.getD []).toArray⟩, .bool (s.chunkLine b).2.isSome]) ∧ RdPost w rd ms (s.chunkLine b).1 out w' := by
  obtain ⟨i0, hi, hz0, hz1, hz2⟩ := info_byte
  have hb256 := b.toNat_lt
  have HE := Lib.hid (ended_any h (by omega))
  obtain ⟨vo, vl, vf, vb, hI⟩ := h
  obtain ⟨a, c, rfl⟩ := row_form hI.line
  have HI := Lib.hid hI
  have q4 : w.cell? ⟨rd, 4, none⟩ = some (.slice a s.line.length c) := cell_of_heap hI.box
  have hlt := hI.lt
  clear hI
  go_enter Tryz.func130, Tryz.ntmps130
  by_cases hb : b = 10
  · subst hb
    go_wp2_with fail
    refine HE.out.mono ?_
    rintro e w2 ⟨rfl, hp⟩
    go_wp2_with fail
    go_ret2
    exact ⟨rfl, hp⟩
  · have hbn : (b.toNat : Int) ≠ 10 := fun e => hb (UInt8.toNat_inj.1 (by have : (10 : UInt8).toNat = 10 := rfl; omega))
    go_wp2_with (refine wpList_append_lies _ rfl _ _ 41 rfl 0 5 i0 _ 1 1 Tryz.underlying41 hi hz0 hz1 hz2 rfl (by decide) (.slice a s.line.length c) s.line.length (Lib.byteCells s.line) rfl (HI.out.line.alloc _) ⟨w.heap.size, 0, none⟩ 1 1 [.int .u8 b.toNat] rfl rfl (fun j u hj => cells_new _ _ _ _ _ (by simpa using hj)) (by simp [Value.oneCell']) (by decide) (by simp only [maxLen]; omega) (by omega) (Nat.zero_le _) _ rfl ?_)
    intro g cap w2 hown hgr hat hlt2
    have hIa := HI.out.later (below_alloc (Below.refl _ _) (Nat.le_refl _) (.cells #[.int .u8 b.toNat] 5))
    have hbx := hIa.past hIa.oL hgr
    have q4 : w2.cell? ⟨rd, 4, none⟩ = some (.slice a s.line.length c) := cell_of_heap hbx
    have f4 : w2.frozen? ⟨rd, 4, none⟩ = false := free_of_heap hbx
    have hP := hIa.pushLine (s' := s.put b) hown hgr (by rw [World.size_alloc]; exact hat) hlt2 rfl ⟨by simp [RS.put], byteCells_snoc _ _⟩ rfl rfl
    have HP := Lib.hid hP.1
    have HM := Lib.hid ((Mv.of_below (below_alloc (Below.refl _ _) (Nat.le_refl _) _)).trans hP.2)
    have HF := Lib.hid (fail_any ⟨_, _, _, _, hP.1⟩ 63)
    clear hIa hbx hP hown hgr hat
    by_cases hc : 200 < s.line.length + 1
    · go_wp2_with fail
      refine HF.out.mono ?_
      rintro e w3 ⟨rfl, ms2, r2, m2⟩
      go_wp2_with fail
      go_ret2
      have hx : s.chunkLine b = ((s.put b).fail 63, none) := by unfold RS.chunkLine; rw [if_neg hb, if_pos hc]
      rw [hx]
      exact ⟨rfl, ms2, r2, HM.out.trans m2⟩
    · go_wp2_with fail
      go_ret2
      have hx : s.chunkLine b = (s.put b, none) := by unfold RS.chunkLine; rw [if_neg hb, if_neg (by omega)]
      rw [hx]
      exact ⟨rfl, _, ⟨_, _, _, _, HP.out⟩, HM.out⟩

end Go.Proofs.YtdilmefeofdkmaaGreatDoor
