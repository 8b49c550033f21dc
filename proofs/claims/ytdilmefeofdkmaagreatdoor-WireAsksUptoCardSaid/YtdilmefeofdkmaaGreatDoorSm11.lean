/-
  SEVERAL SMALL TEXTS IN ONE.
-/
import Derived.Test.YtdilmefeofdkmaaGreatDoorSm10
import Derived.Lib.ConvBytes
import Derived.Lib.AtoiAllMem
import Derived.Laws.Strings3
/-
  WIRE: a byte of a first line. (Printed by wip/gen/wifirst.py.)
-/
namespace Go.Proofs.YtdilmefeofdkmaaGreatDoor
open Go.RowKit

set_option maxHeartbeats 4000000 in
set_option maxRecDepth 100000 in
theorem first_any {w : World} {rd : Nat} {ms : Own} {s : RS} {out : List ReqV} (h : RdrAt w rd ms s out) (b : UInt8) (hl : s.line.length ≤ 1000000000) (hh0 : 0 ≤ s.head) (hh1 : s.head ≤ 8000) (hb0 : 0 ≤ s.blanks) (hbl1 : s.blanks ≤ 1000000) (ht0 : 0 ≤ s.tgt) (ht1 : s.tgt ≤ 1000000) :
    Calls Tryz.prog 54 #[.pointer (some ⟨rd, 0, none⟩), .int .u8 b.toNat] w fun x w' => x = .returned (.tuple #[]) ∧ RdPost w rd ms (s.first b) out w' := by
  obtain ⟨i0, hi, hz0, hz1, hz2⟩ := info_byte
  have hb256 := b.toNat_lt
  have HC := Lib.hid (counts_any h hh0 hh1)
  clear h
  go_enter Tryz.func54, Tryz.ntmps54
  go_wp2_with fail
  refine HC.out.mono ?_
  rintro e w1 ⟨rfl, ms1, r1, m1⟩
  by_cases hc : 8000 < s.head + 1
  · have HR : Hid (s.first b = s.counts) := by show _ = _; unfold RS.first; simp only; rw [if_pos hc]
    have R1 := Lib.hid r1
    have M1 := Lib.hid m1
    have hd : decide (s.head + 1 ≤ 8000) = false := decide_eq_false (by omega)
    clear r1 m1 hc
    rw [hd]
    clear hd
    go_wp2_with fail
    first | go_end0 | (refine bodyPost_ret (results_none rfl _ _ _) rfl ?_)
    rw [HR.out]
    exact ⟨rfl, ms1, R1.out, M1.out⟩
  · have hd : decide (s.head + 1 ≤ 8000) = true := decide_eq_true (by omega)
    have ht : s.counts = { s with head := s.head + 1 } := by unfold RS.counts; rw [if_neg hc]
    have HF : Hid (s.first b = if b = 10 then (if trimCR s.line = [] then ({ s with head := s.head + 1, line := [] } : RS).begin else { ({ s with head := s.head + 1, line := [] } : RS).request (trimCR s.line) with mode := .field }) else if b = 32 then ({ s with head := s.head + 1, blanks := s.blanks + 1 } : RS).put b else if s.blanks = 1 then (if 2000 < s.tgt + 1 then ({ s with head := s.head + 1, tgt := s.tgt + 1 } : RS).fail 66 else ({ s with head := s.head + 1, tgt := s.tgt + 1 } : RS).put b) else ({ s with head := s.head + 1 } : RS).put b) := by
      show _ = _
      unfold RS.first
      simp only
      rw [if_neg hc, ht]
    rw [ht] at r1
    rw [hd]
    clear hc ht hd
    by_cases hb : b = 10
    · subst hb
      rw [if_pos rfl] at HF
      have HE := Lib.hid (ended_any r1 (by simp only; omega))
      have M1 := Lib.hid m1
      have hlen := trimCR_len s.line
      clear r1 m1
      go_wp2_with fail
      refine HE.out.mono ?_
      generalize trimCR s.line = line at *
      rintro e w2 ⟨rfl, ms2, r2, m2⟩
      have M2 := Lib.hid (M1.out.trans m2)
      by_cases hn : line = []
      · subst hn
        rw [if_pos rfl] at HF
        obtain ⟨vo, vl, vf, vb, hI⟩ := r2
        have HB := Lib.hid (begin_any hI.toRdrO)
        clear hI m2
        go_wp2_with fail
        refine HB.out.mono ?_
        rintro e w3 ⟨rfl, ms3, r3, m3⟩
        go_wp2_with fail
        first | go_end0 | (refine bodyPost_ret (results_none rfl _ _ _) rfl ?_)
        rw [HF.out]
        exact ⟨rfl, ms3, r3, M2.out.trans m3⟩
      · have hb1 : (line == []) = false := by rw [beq_eq_false_iff_ne]; exact hn
        rw [if_neg hn] at HF
        have HQ := Lib.hid (request_any r2 line (by omega))
        clear r2 m2
        go_wp2_with fail
        refine HQ.out.mono ?_
        rintro e w3 ⟨rfl, ms3, ⟨vo, vl, vf, vb, hI⟩, m3⟩
        have q0 : w3.cell? ⟨rd, 0, none⟩ = some (nextV rd _) := cell_of_heap hI.box
        have f0 : w3.frozen? ⟨rd, 0, none⟩ = false := free_of_heap hI.box
        have I3 := Lib.hid hI
        have M3 := Lib.hid (M2.out.trans m3)
        clear hI m3
        go_wp2_with fail
        first | go_end0 | (refine bodyPost_ret (results_none rfl _ _ _) rfl ?_)
        rw [HF.out]
        exact ⟨rfl, _, ⟨_, _, _, _, I3.out.set 0 (nextV rd .field) _ rfl rfl rfl rfl⟩, M3.out.trans (I3.out.mvSet 0 _)⟩
    · have hb1 : ((b.toNat : Int) == 10) = false := toNat_ne (n := 10) (by decide) hb
      rw [if_neg hb] at HF
      obtain ⟨vo, vl, vf, vb, hI⟩ := r1
      obtain ⟨a, c, rfl⟩ := row_form hI.line
      have K1 := Lib.hid hI
      have M1 := Lib.hid m1
      have hlt := hI.lt
      clear hb m1
      by_cases hs : b = 32
      · have hb2 : ((b.toNat : Int) == 32) = true := by rw [hs]; rfl
        rw [if_pos hs] at HF
        have q6 : w1.cell? ⟨rd, 6, none⟩ = some (.int .i64 s.blanks) := cell_of_heap hI.box
        have f6 : w1.frozen? ⟨rd, 6, none⟩ = false := free_of_heap hI.box
        have kA := hI.set 6 (.int .i64 (s.blanks + 1)) { s with head := s.head + 1, blanks := s.blanks + 1 } rfl rfl rfl rfl
        have KA := Lib.hid kA
        have MA := Lib.hid (M1.out.trans (hI.mvSet 6 (.int .i64 (s.blanks + 1))))
        have q4 : (w1.setCell ⟨rd, 6, none⟩ (.int .i64 (s.blanks + 1))).cell? ⟨rd, 4, none⟩ = some (.slice a s.line.length c) := cell_of_heap kA.box
        have hls : w1.heap.size = (w1.setCell ⟨rd, 6, none⟩ (.int .i64 (s.blanks + 1))).heap.size := by simp [World.setCell]
        clear hI hs kA
        go_upto_region 13 with (fail)
        generalize (w1.setCell ⟨rd, 6, none⟩ (.int .i64 (s.blanks + 1))) = wa at *
        clear q6 f6 K1 M1
        go_wp2_with (refine wpList_append_lies _ rfl _ _ 41 rfl 0 5 i0 _ 1 1 Tryz.underlying41 hi hz0 hz1 hz2 rfl (by decide) (.slice a s.line.length c) s.line.length (Lib.byteCells s.line) rfl (KA.out.line.alloc _) ⟨wa.heap.size, 0, none⟩ 1 1 [.int .u8 b.toNat] rfl rfl (fun j u hj => cells_new _ _ _ _ _ (by simpa using hj)) (by simp [Value.oneCell']) (by decide) (by simp only [maxLen]; omega) (by omega) (Nat.zero_le _) _ rfl ?_)
        intro g cap w2 hown hgr hat hlt2
        have hIa := KA.out.later (below_alloc (Below.refl _ _) (Nat.le_refl _) (.cells #[.int .u8 b.toNat] 5))
        have hbx := hIa.past hIa.oL hgr
        have q4 : w2.cell? ⟨rd, 4, none⟩ = some (.slice a s.line.length c) := cell_of_heap hbx
        have f4 : w2.frozen? ⟨rd, 4, none⟩ = false := free_of_heap hbx
        have hP := hIa.pushLine (s' := ({ s with head := s.head + 1, blanks := s.blanks + 1 } : RS).put b) hown hgr (by rw [World.size_alloc]; exact hat) hlt2 rfl ⟨by simp [RS.put], byteCells_snoc _ _⟩ rfl rfl
        have HP := Lib.hid hP.1
        have HM := Lib.hid (MA.out.trans ((Mv.of_below (below_alloc (Below.refl _ _) (Nat.le_refl _) _)).trans hP.2))
        have HX := Lib.hid hbx
        clear hIa hbx hP hown hgr hat
        go_wp2_with fail
        first | go_end0 | (refine bodyPost_ret (results_none rfl _ _ _) rfl ?_)
        rw [HF.out]
        exact ⟨rfl, _, ⟨_, _, _, _, HP.out⟩, HM.out⟩
      · have hb2 : ((b.toNat : Int) == 32) = false := toNat_ne (n := 32) (by decide) hs
        rw [if_neg hs] at HF
        have q6 : w1.cell? ⟨rd, 6, none⟩ = some (.int .i64 s.blanks) := cell_of_heap hI.box
        by_cases h1 : s.blanks = 1
        · have e1 := beq_int_true h1
          rw [if_pos h1] at HF
          have q7 : w1.cell? ⟨rd, 7, none⟩ = some (.int .i64 s.tgt) := cell_of_heap hI.box
          have f7 : w1.frozen? ⟨rd, 7, none⟩ = false := free_of_heap hI.box
          have kA := hI.set 7 (.int .i64 (s.tgt + 1)) { s with head := s.head + 1, tgt := s.tgt + 1 } rfl rfl rfl rfl
          have KA := Lib.hid kA
          have MA := Lib.hid (M1.out.trans (hI.mvSet 7 (.int .i64 (s.tgt + 1))))
          have q4 : (w1.setCell ⟨rd, 7, none⟩ (.int .i64 (s.tgt + 1))).cell? ⟨rd, 4, none⟩ = some (.slice a s.line.length c) := cell_of_heap kA.box
          clear h1
          by_cases h2 : 2000 < s.tgt + 1
          · rw [if_pos h2] at HF
            have HX := Lib.hid (fail_any ⟨_, _, _, _, kA⟩ 66)
            clear hI hs kA
            go_wp2_with fail
            refine HX.out.mono ?_
            rintro e w3 ⟨rfl, ms3, r3, m3⟩
            go_wp2_with fail
            first | go_end0 | (refine bodyPost_ret (results_none rfl _ _ _) rfl ?_)
            rw [HF.out]
            exact ⟨rfl, ms3, r3, MA.out.trans m3⟩
          · rw [if_neg h2] at HF
            have h3 : s.tgt + 1 ≤ 2000 := by omega
            clear hI hs kA h2
            go_upto_region 13 with (fail)
            generalize (w1.setCell ⟨rd, 7, none⟩ (.int .i64 (s.tgt + 1))) = wa at *
            clear q6 q7 f7 K1 M1
            go_wp2_with (refine wpList_append_lies _ rfl _ _ 41 rfl 0 5 i0 _ 1 1 Tryz.underlying41 hi hz0 hz1 hz2 rfl (by decide) (.slice a s.line.length c) s.line.length (Lib.byteCells s.line) rfl (KA.out.line.alloc _) ⟨wa.heap.size, 0, none⟩ 1 1 [.int .u8 b.toNat] rfl rfl (fun j u hj => cells_new _ _ _ _ _ (by simpa using hj)) (by simp [Value.oneCell']) (by decide) (by simp only [maxLen]; omega) (by omega) (Nat.zero_le _) _ rfl ?_)
            intro g cap w2 hown hgr hat hlt2
            have hIa := KA.out.later (below_alloc (Below.refl _ _) (Nat.le_refl _) (.cells #[.int .u8 b.toNat] 5))
            have hbx := hIa.past hIa.oL hgr
            have q4 : w2.cell? ⟨rd, 4, none⟩ = some (.slice a s.line.length c) := cell_of_heap hbx
            have f4 : w2.frozen? ⟨rd, 4, none⟩ = false := free_of_heap hbx
            have hP := hIa.pushLine (s' := ({ s with head := s.head + 1, tgt := s.tgt + 1 } : RS).put b) hown hgr (by rw [World.size_alloc]; exact hat) hlt2 rfl ⟨by simp [RS.put], byteCells_snoc _ _⟩ rfl rfl
            have HP := Lib.hid hP.1
            have HM := Lib.hid (MA.out.trans ((Mv.of_below (below_alloc (Below.refl _ _) (Nat.le_refl _) _)).trans hP.2))
            have HX := Lib.hid hbx
            clear hIa hbx hP hown hgr hat
            go_wp2_with fail
            first | go_end0 | (refine bodyPost_ret (results_none rfl _ _ _) rfl ?_)
            rw [HF.out]
            exact ⟨rfl, _, ⟨_, _, _, _, HP.out⟩, HM.out⟩
        · have e1 := beq_int_false h1
          rw [if_neg h1] at HF
          have q4 : w1.cell? ⟨rd, 4, none⟩ = some (.slice a s.line.length c) := cell_of_heap hI.box
          clear hI hs h1
          go_wp2_with (refine wpList_append_lies _ rfl _ _ 41 rfl 0 5 i0 _ 1 1 Tryz.underlying41 hi hz0 hz1 hz2 rfl (by decide) (.slice a s.line.length c) s.line.length (Lib.byteCells s.line) rfl (K1.out.line.alloc _) ⟨w1.heap.size, 0, none⟩ 1 1 [.int .u8 b.toNat] rfl rfl (fun j u hj => cells_new _ _ _ _ _ (by simpa using hj)) (by simp [Value.oneCell']) (by decide) (by simp only [maxLen]; omega) (by omega) (Nat.zero_le _) _ rfl ?_)
          intro g cap w2 hown hgr hat hlt2
          have hIa := K1.out.later (below_alloc (Below.refl _ _) (Nat.le_refl _) (.cells #[.int .u8 b.toNat] 5))
          have hbx := hIa.past hIa.oL hgr
          have q4 : w2.cell? ⟨rd, 4, none⟩ = some (.slice a s.line.length c) := cell_of_heap hbx
          have f4 : w2.frozen? ⟨rd, 4, none⟩ = false := free_of_heap hbx
          have hP := hIa.pushLine (s' := ({ s with head := s.head + 1 } : RS).put b) hown hgr (by rw [World.size_alloc]; exact hat) hlt2 rfl ⟨by simp [RS.put], byteCells_snoc _ _⟩ rfl rfl
          have HP := Lib.hid hP.1
          have HM := Lib.hid (M1.out.trans ((Mv.of_below (below_alloc (Below.refl _ _) (Nat.le_refl _) _)).trans hP.2))
          have HX := Lib.hid hbx
          clear hIa hbx hP hown hgr hat
          go_wp2_with fail
          first | go_end0 | (refine bodyPost_ret (results_none rfl _ _ _) rfl ?_)
          rw [HF.out]
          exact ⟨rfl, _, ⟨_, _, _, _, HP.out⟩, HM.out⟩

end Go.Proofs.YtdilmefeofdkmaaGreatDoor

/-
  strconv.ParseUint at base 16, bit size 16, at every text: the walks.
-/
namespace Go.Proofs.YtdilmefeofdkmaaGreatDoor
open Go.RowKit

/-- a digit of base up to 36, as strconv takes it; from 16 on: it is none -/
def hxd (c : UInt8) : Int :=
  if 48 ≤ (c.toNat : Int) ∧ (c.toNat : Int) ≤ 57 then (c.toNat : Int) - 48
  else if 97 ≤ bits .or .u8 (c.toNat : Int) 32 ∧ bits .or .u8 (c.toNat : Int) 32 ≤ 122 then bits .or .u8 (c.toNat : Int) 32 - 97 + 10 else 255
theorem hxd_nonneg (c : UInt8) : 0 ≤ hxd c := by
  unfold hxd
  split
  · omega
  · split <;> omega
/-- the number of sixteenths, behind a; none: no number, or too great for 16 bits -/
def pw16 : Int → List UInt8 → Option Int
  | a, [] => some a
  | a, c :: r => if 16 ≤ hxd c then none else if 65535 < a * 16 + hxd c then none else pw16 (a * 16 + hxd c) r

/-- how ParseUint ends -/
def PuOut (o : Option Int) (e : Ending) : Prop :=
  match o with
  | some v => e = .returned (.tuple #[.int .u64 v, .nilIface])
  | none => e = .returned (.tuple #[.int .u64 0, .iface 141 (.int .i64 2)]) ∨ e = .returned (.tuple #[.int .u64 65535, .iface 141 (.int .i64 1)])

set_option maxHeartbeats 4000000 in
set_option maxRecDepth 100000 in
theorem parseUint16 (bs : List UInt8) (hne : bs ≠ []) (hmax : bs.length ≤ 9223372036854775806) (w : World) :
    Calls Tryz.prog 147 #[.string ⟨bs.toArray⟩, .int .i64 16, .int .i64 16] w fun e w' => PuOut (pw16 0 bs) e ∧ Below w.heap.size w w' := by
  have hsz : (⟨bs.toArray⟩ : ByteArray).size = bs.length := by simp [ByteArray.size]
  have hcv := Lib.run_convert_string_bytes (P := Tryz.prog) w 9 41 5 ⟨bs.toArray⟩ (u := .string) Tryz.underlying9 Tryz.underlying41 Tryz.underlying5
  have hB : ∀ j, j < bs.length → (Lib.bytesWorld w 5 ⟨bs.toArray⟩).cell? ⟨w.heap.size, j, none⟩ = some (.int .u8 (bs.getD j 0).toNat) := fun j hj => Lib.bytesWorld_cell w 5 ⟨bs.toArray⟩ j (by rw [hsz]; exact hj)
  have hBW := Lib.hid (below_bytesWorld w 5 ⟨bs.toArray⟩)
  have hemp : bs.isEmpty = false := by cases bs with | nil => exact absurd rfl hne | cons _ _ => rfl
  obtain ⟨W1, hW1⟩ : ∃ W1, W1 = Lib.bytesWorld w 5 ⟨bs.toArray⟩ := ⟨_, rfl⟩
  rw [← hW1] at hcv hB hBW
  clear hW1
  have HBS := Lib.hid hB
  have hmv : IntKind.u64.wrap (IntKind.u64.wrap 65536 - 1) = 65535 := by
    rw [IntKind.wrap_u64, IntKind.wrap_u64]
    decide
  obtain ⟨R, hR⟩ : ∃ R, Hid (pw16 0 bs = R) := ⟨_, rfl⟩
  rw [hR.out]
  clear hB hsz hne
  go_enter Tryz.func147, Tryz.ntmps147
  go_wp2
  go_loop [12, 13, 101] (fun vu vn vi => ∃ (k : Nat) (a : Int), vu = .bool false ∧ vn = .int .u64 a ∧ vi = .int .i64 k ∧ k ≤ bs.length ∧ 0 ≤ a ∧ a ≤ 65535 ∧ Hid (pw16 a (bs.drop k) = R)) (fun _ _ vi => bs.length - (intOf vi).toNat)
  case atStart => exact ⟨0, 0, rfl, rfl, rfl, by omega, by omega, by omega, hR⟩
  case round =>
    obtain ⟨k, a, rfl, rfl, rfl, hk, ha0, ha1, HD⟩ := hrel
    by_cases hkn : k < bs.length
    · have hc := HBS.out k hkn
      have hdrop : bs.drop k = bs[k] :: bs.drop (k + 1) := List.drop_eq_getElem_cons hkn
      have hget : bs.getD k 0 = bs[k] := by simp [List.getD, List.getElem?_eq_getElem hkn]
      rw [hdrop] at HD
      rw [hget] at hc
      generalize bs[k] = c at hc HD
      have hc256 : c.toNat < 256 := c.toNat_lt
      have hx := (rfl : hxd c = hxd c)
      conv at hx => rhs; unfold hxd
      clear hdrop hget
      by_cases hdig : 48 ≤ (c.toNat : Int) ∧ (c.toNat : Int) ≤ 57
      · rw [if_pos hdig] at hx
        obtain ⟨hd0, hd1⟩ := hdig
        have hxv := Lib.hid hx
        clear hx
        have hstep : Hid (pw16 a (c :: bs.drop (k + 1)) = if 65535 < a * 16 + ((c.toNat : Int) - 48) then none else pw16 (a * 16 + ((c.toNat : Int) - 48)) (bs.drop (k + 1))) := by
          show _ = _
          rw [pw16, hxv.out, if_neg (by omega)]
        by_cases hcut : 65535 < a * 16 + ((c.toNat : Int) - 48)
        · have HRN : Hid (R = none) := by show _ = _; rw [← HD.out, hstep.out, if_pos hcut]
          have hcut' : a < 1152921504606846976 := by omega
          cases h95 : ((c.toNat : Int) == 95)
          all_goals
            go_wp2_with (go_at_call 154; refine (Tryz.internal_strconv_lower _ _).mono ?_; rintro e w' ⟨rfl, rfl⟩)
            go_ret2
            rw [HRN.out]
            exact ⟨.inr rfl, hBW.out⟩
        · have hcut' : a < 1152921504606846976 := by omega
          have hcut2 : a * 16 + ((c.toNat : Int) - 48) ≤ 65535 := by omega
          have HRN : Hid (pw16 (a * 16 + ((c.toNat : Int) - 48)) (bs.drop (k + 1)) = R) := by show _ = _; rw [← HD.out, hstep.out, if_neg hcut]
          have hov : a * 16 + ((c.toNat : Int) - 48) < 18446744073709551616 := by omega
          clear hcut
          cases h95 : ((c.toNat : Int) == 95)
          all_goals
            go_wp2_with (go_at_call 154; refine (Tryz.internal_strconv_lower _ _).mono ?_; rintro e w' ⟨rfl, rfl⟩)
            refine ⟨⟨k + 1, a * 16 + ((c.toNat : Int) - 48), rfl, (by first | rfl | (congr 1; omega)), (by first | rfl | (congr 1; omega)), by omega, by omega, hcut2, HRN⟩, by simp [intOf]; omega⟩
      · rw [if_neg hdig] at hx
        have hlo0 := bits_lo_u8 .or (c.toNat : Int) 32
        have hlo1 := bits_hi_u8 .or (c.toNat : Int) 32
        have hnd : ((c.toNat : Int) < 48) ∨ (48 ≤ (c.toNat : Int) ∧ 57 < (c.toNat : Int)) := by omega
        clear hdig
        obtain ⟨lo, hlo⟩ : ∃ lo, bits .or .u8 (c.toNat : Int) 32 = lo := ⟨_, rfl⟩
        have HLOW : Hid (∀ W, Calls Tryz.prog 154 #[.int .u8 (c.toNat : Int)] W fun e w' => e = .returned (.int .u8 lo) ∧ w' = W) := fun W => by rw [← hlo]; exact Tryz.internal_strconv_lower _ _
        rw [hlo] at hx hlo0 hlo1
        clear hlo
        by_cases hlet : 97 ≤ lo ∧ lo ≤ 122
        · rw [if_pos hlet] at hx
          obtain ⟨hl0, hl1⟩ := hlet
          have hxv := Lib.hid hx
          clear hx
          by_cases h16 : 16 ≤ lo - 97 + 10
          · have HRN : Hid (R = none) := by show _ = _; rw [← HD.out, pw16, hxv.out, if_pos h16]
            rcases hnd with hnd | ⟨hnd, hnd'⟩
            all_goals
              cases h95 : ((c.toNat : Int) == 95)
              all_goals
                go_wp2_with (go_at_call 154; refine (HLOW.out _).mono ?_; rintro e w' ⟨rfl, rfl⟩)
                go_ret2
                rw [HRN.out]
                exact ⟨.inl rfl, hBW.out⟩
          · have h16' : lo - 97 + 10 < 16 := by omega
            clear h16
            rcases hnd with hnd | ⟨hnd, hnd'⟩
            all_goals
              have hstep : Hid (pw16 a (c :: bs.drop (k + 1)) = if 65535 < a * 16 + (lo - 97 + 10) then none else pw16 (a * 16 + (lo - 97 + 10)) (bs.drop (k + 1))) := by
                show _ = _
                rw [pw16, hxv.out, if_neg (by omega)]
              by_cases hcut : 65535 < a * 16 + (lo - 97 + 10)
              · have HRN : Hid (R = none) := by show _ = _; rw [← HD.out, hstep.out, if_pos hcut]
                have hcut' : a < 1152921504606846976 := by omega
                cases h95 : ((c.toNat : Int) == 95)
                all_goals
                  go_wp2_with (go_at_call 154; refine (HLOW.out _).mono ?_; rintro e w' ⟨rfl, rfl⟩)
                  go_ret2
                  rw [HRN.out]
                  exact ⟨.inr rfl, hBW.out⟩
              · have hcut' : a < 1152921504606846976 := by omega
                have hcut2 : a * 16 + (lo - 97 + 10) ≤ 65535 := by omega
                have HRN : Hid (pw16 (a * 16 + (lo - 97 + 10)) (bs.drop (k + 1)) = R) := by show _ = _; rw [← HD.out, hstep.out, if_neg hcut]
                have hov : a * 16 + (lo - 97 + 10) < 18446744073709551616 := by omega
                clear hcut
                cases h95 : ((c.toNat : Int) == 95)
                all_goals
                  go_wp2_with (go_at_call 154; refine (HLOW.out _).mono ?_; rintro e w' ⟨rfl, rfl⟩)
                  refine ⟨⟨k + 1, a * 16 + (lo - 97 + 10), rfl, (by first | rfl | (congr 1; omega)), (by first | rfl | (congr 1; omega)), by omega, by omega, hcut2, HRN⟩, by simp [intOf]; omega⟩
        · rw [if_neg hlet] at hx
          have hxv := Lib.hid hx
          clear hx
          have HRN : Hid (R = none) := by show _ = _; rw [← HD.out, pw16, hxv.out, if_pos (by omega)]
          have hlt' : lo < 97 ∨ (97 ≤ lo ∧ 122 < lo) := by omega
          clear hlet
          rcases hlt' with h1 | ⟨h1, h2⟩
          all_goals
            rcases hnd with hnd | ⟨hnd, hnd'⟩
            all_goals
              cases h95 : ((c.toNat : Int) == 95)
              all_goals
                go_wp2_with (go_at_call 154; refine (HLOW.out _).mono ?_; rintro e w' ⟨rfl, rfl⟩)
                go_ret2
                rw [HRN.out]
                exact ⟨.inl rfl, hBW.out⟩
    · obtain rfl : k = bs.length := by omega
      have HRN : Hid (R = some a) := by show _ = _; rw [← HD.out, List.drop_length]; rfl
      go_wp2
      go_ret2
      rw [HRN.out]
      exact ⟨rfl, hBW.out⟩

end Go.Proofs.YtdilmefeofdkmaaGreatDoor
