/-
  WIRE: a first line, by the document.
-/
import Derived.Test.YtdilmefeofdkmaaGreatDoorWxEnds
import Derived.Test.YtdilmefeofdkmaaGreatDoorSm11
namespace Go.Proofs.YtdilmefeofdkmaaGreatDoor
open Go.RowKit Go.PlainAid

def okV (line : List UInt8) : Bool :=
  (cutAt 32 line).2.2 && (cutAt 32 (cutAt 32 line).2.1).2.2 && !(cutAt 32 line).1.isEmpty && !(cutAt 32 (cutAt 32 line).2.1).1.isEmpty && formL (cutAt 32 (cutAt 32 line).2.1).2.1
theorem startOk_eq (line : List UInt8) : startOk line = (okV line && (cutAt 32 line).1.all capB && (cutAt 32 (cutAt 32 line).2.1).1.all seenB) := by
  unfold startOk okV allB
  generalize (cutAt 32 line).2.2 = x1
  generalize (cutAt 32 (cutAt 32 line).2.1).2.2 = x2
  generalize (cutAt 32 line).1.isEmpty = x3
  generalize (cutAt 32 (cutAt 32 line).2.1).1.isEmpty = x4
  generalize formL (cutAt 32 (cutAt 32 line).2.1).2.1 = x5
  generalize (cutAt 32 line).1.all capB = x6
  generalize (cutAt 32 (cutAt 32 line).2.1).1.all seenB = x7
  cases x1 <;> cases x2 <;> cases x3 <;> cases x4 <;> cases x5 <;> cases x6 <;> cases x7 <;> rfl
theorem start_eq (s : QS) {line M R T V : List UInt8} {o1 o2 : Bool} (h1 : cutAt 32 line = (M, R, o1)) (h2 : cutAt 32 R = (T, V, o2)) {b : Bool} (hb : startOk line = b) :
    s.start line = if b = false then ({ s with first := false } : QS).no 60 else if methods.contains M = false then ({ s with first := false } : QS).no 68 else if (V != http10 && V != http11) = true then ({ s with first := false } : QS).no 70 else { s with first := false, meth := M, tgt := T, minor := ((V.getD 7 0).toNat : Int) - 48 } := by
  unfold QS.start
  simp only [h1, h2, hb, Bool.and_eq_true, bne_iff_ne]

theorem all_take {l : List UInt8} {p : UInt8 → Bool} {i : Nat} (hi : i ≤ l.length) {ok : Bool} (h : (decide (i < l.length) && (ok && (l.take i).all p)) = false) : (ok && (l.take i).all p) = (ok && l.all p) := by
  by_cases hlt : i < l.length
  · rw [decide_eq_true hlt, Bool.true_and] at h
    rw [h]
    symm
    cases ok
    · rfl
    · rw [Bool.true_and] at h ⊢
      rw [Bool.eq_false_iff]
      intro hall
      rw [Bool.eq_false_iff] at h
      apply h
      rw [List.all_eq_true] at hall ⊢
      exact fun x hx => hall x (List.mem_of_mem_take hx)
  · rw [List.take_of_length_le (by omega)]
theorem all_step {l : List UInt8} {p : UInt8 → Bool} {i : Nat} {x : UInt8} (hx : l[i]? = some x) {ok : Bool} (h : (ok && (l.take i).all p) = true) : (ok && (l.take (i + 1)).all p) = p x := by
  rw [Bool.and_eq_true] at h
  rw [List.take_add_one, hx, List.all_append, h.1, h.2]
  simp

theorem seen33_int (b : UInt8) : seenB b = (decide (33 ≤ (b.toNat : Int)) && decide ((b.toNat : Int) ≤ 126)) := by
  rw [seenB_int]
  congr 1

theorem split_list (l : List UInt8) (c : UInt8) (w : World) (hs : l.length ≤ 140737488351232) :
    Calls Tryz.prog 84 #[.string ⟨l.toArray⟩, .int .u8 (c.toNat : Int)] w fun e w' => e = .returned (.tuple #[.string ⟨(cutAt c l).1.toArray⟩, .string ⟨(cutAt c l).2.1.toArray⟩, .bool (cutAt c l).2.2]) ∧ Below w.heap.size w w' :=
  split_any ⟨l.toArray⟩ c w (by simp [ByteArray.size]; omega)

/-- the first line's three, written as a whole request: the fields are none -/
def laidW (w : World) (rd : Nat) (M T : List UInt8) (n : Int) : World :=
  (((((w.setCell ⟨rd, 7, none⟩ (.string ⟨M.toArray⟩)).setCell ⟨rd, 8, none⟩ (.string ⟨T.toArray⟩)).setCell ⟨rd, 9, none⟩ (.int .i64 n)).setCell ⟨rd, 10, none⟩ (.slice none 0 0)).setCell ⟨rd, 11, none⟩ (.string ⟨#[]⟩)).setCell ⟨rd, 12, none⟩ (.bool false)
theorem RefIn.noFlds {w : World} {rd : Nat} {ms : Nat → Prop} {s : QS} {out : List ReqV} {vo vl vf vb : Value} (h : RefIn w rd ms s out vo vl vf vb) : RefIn (w.setCell ⟨rd, 10, none⟩ (.slice none 0 0)) rd ms { s with fields := [] } out vo vl (.slice none 0 0) vb where
  glob := h.glob.chg (Chg.set w ⟨rd, 10, none⟩ (.slice none 0 0)) (fun b hb => by simp only at hb; rw [hb]; exact (h.low rd h.rdM).1) h.size
  box := by rw [heap_set h.box]; rfl
  line := row_kept h.line fun g hg _ => Below.heap_setCell _ _ _ _ (h.oL g hg).2
  body := row_kept h.body fun g hg _ => Below.heap_setCell _ _ _ _ (h.oB g hg).2
  flds := World.ownsRow_nil _ _ _ _
  outs := by
    obtain ⟨xs, ok, h1, h2, h3⟩ := h.outs
    exact ⟨xs, ok, row_kept h1 fun g hg _ => Below.heap_setCell _ _ _ _ (h.oO g hg).2, h2.kept (fun b _ hob => Below.heap_setCell _ _ _ _ (fun e => h3 b hob (by simp only at e; rw [e]; exact h.rdM))) (fun _ _ x => x), h3⟩
  rdM := h.rdM
  oL := h.oL
  oB := h.oB
  oF := fun b hb => by cases hb
  oO := h.oO
  lb := h.lb
  lf := (Dj.nil _).symm
  lo := h.lo
  bf := (Dj.nil _).symm
  bo := h.bo
  fo := Dj.nil _
  low := fun b hb => by have := h.low b hb; simpa [World.setCell] using this
theorem RefIn.laid {w : World} {rd : Nat} {ms : Nat → Prop} {s : QS} {out : List ReqV} {vo vl vf vb : Value} (h : RefIn w rd ms s out vo vl vf vb) (M T : List UInt8) (n : Int) :
    RefIn (laidW w rd M T n) rd ms { s with meth := M, tgt := T, minor := n, fields := [] } out vo vl (.slice none 0 0) vb ∧ Xv w (laidW w rd M T n) ms ms := by
  have k1 := h.set 7 (.string ⟨M.toArray⟩) { s with meth := M } rfl rfl rfl rfl
  have k2 := k1.set 8 (.string ⟨T.toArray⟩) { s with meth := M, tgt := T } rfl rfl rfl rfl
  have k3 := k2.set 9 (.int .i64 n) { s with meth := M, tgt := T, minor := n } rfl rfl rfl rfl
  have k4 := k3.noFlds
  have k5 := k4.set 11 (.string ⟨#[]⟩) { s with meth := M, tgt := T, minor := n, fields := [] } rfl rfl rfl rfl
  have k6 := k5.set 12 (.bool false) { s with meth := M, tgt := T, minor := n, fields := [] } rfl rfl rfl rfl
  exact ⟨k6, (((((h.mvSet 7 _).trans (k1.mvSet 8 _)).trans (k2.mvSet 9 _)).trans (k3.mvSet 10 _)).trans (k4.mvSet 11 _)).trans (k5.mvSet 12 _)⟩

set_option maxHeartbeats 8000000 in
set_option maxRecDepth 100000 in
theorem start_any {w : World} {rd : Nat} {ms : Nat → Prop} {s : QS} {out : List ReqV} (h : RefAt w rd ms s out) (hf0 : s.fields = []) (line : List UInt8) (hl : line.length ≤ 140737488351232) :
    Calls Tryz.prog 80 #[.pointer (some ⟨rd, 0, none⟩), .string ⟨line.toArray⟩] w fun x w' => x = .returned (.tuple #[]) ∧ RfPost w rd ms (s.start line) out w' := by
  have hc1 := cutAt_len 32 line
  have hc2 := cutAt_len 32 (cutAt 32 line).2.1
  have HC1 : Hid (∀ W, Calls Tryz.prog 84 #[.string ⟨line.toArray⟩, .int .u8 32] W fun e w' => e = .returned (.tuple #[.string ⟨(cutAt 32 line).1.toArray⟩, .string ⟨(cutAt 32 line).2.1.toArray⟩, .bool (cutAt 32 line).2.2]) ∧ Below W.heap.size W w') := fun W => split_list line 32 W hl
  have HC2 : Hid (∀ W, Calls Tryz.prog 84 #[.string ⟨(cutAt 32 line).2.1.toArray⟩, .int .u8 32] W fun e w' => e = .returned (.tuple #[.string ⟨(cutAt 32 (cutAt 32 line).2.1).1.toArray⟩, .string ⟨(cutAt 32 (cutAt 32 line).2.1).2.1.toArray⟩, .bool (cutAt 32 (cutAt 32 line).2.1).2.2]) ∧ Below W.heap.size W w') := fun W => split_list _ 32 W (by omega)
  have hsk := startOk_eq line
  have hok : okV line = ((cutAt 32 line).2.2 && (cutAt 32 (cutAt 32 line).2.1).2.2 && !(cutAt 32 line).1.isEmpty && !(cutAt 32 (cutAt 32 line).2.1).1.isEmpty && formL (cutAt 32 (cutAt 32 line).2.1).2.1) := rfl
  generalize hc : cutAt 32 line = c at *
  generalize hd : cutAt 32 c.2.1 = d at *
  obtain ⟨M, R, o1⟩ := c
  obtain ⟨T, V, o2⟩ := d
  simp only at hc1 hc2 HC1 HC2 hd hsk hok
  have HREQ := Lib.hid (start_eq s hc hd hsk)
  have HOK := Lib.hid hok
  generalize okV line = ok0 at *
  obtain ⟨vo, vl, vf, vb, hI⟩ := h
  have HA := Lib.hid hI
  have q3 : w.cell? ⟨rd, 3, none⟩ = some (.bool s.first) := cell_of_heap hI.box
  have f3 : w.frozen? ⟨rd, 3, none⟩ = false := free_of_heap hI.box
  have hV : V.length ≤ 140737488351232 := by omega
  have hM : M.length ≤ 140737488351232 := by omega
  have hT : T.length ≤ 140737488351232 := by omega
  clear hI hc1 hc2 hsk hok hc hd hl
  go_enter Tryz.func80, Tryz.ntmps80
  go_wp2_with fail
  have K1 := Lib.hid (HA.out.set 3 (.bool false) { s with first := false } rfl rfl rfl rfl)
  have M1 := Lib.hid (HA.out.mvSet 3 (.bool false))
  clear q3 f3 HA
  generalize w.setCell ⟨rd, 3, none⟩ (.bool false) = w0 at K1 M1 ⊢
  refine (HC1.out _).mono ?_
  rintro e w1 ⟨rfl, hb1⟩
  go_wp2_with fail
  refine (HC2.out _).mono ?_
  rintro e w2 ⟨rfl, hb2⟩
  have K2 := Lib.hid ((K1.out.later hb1).later hb2)
  have M2 := Lib.hid ((M1.out.later hb1).later hb2)
  clear hb1 hb2 HC1 HC2 K1 M1
  go_upto_region 3 with (fail)
  go_cut [10] (fun sx wx => sx = .bool ok0 ∧ wx = w2)
  case first =>
    cases o1 with
    | false =>
      have FV : Hid (ok0 = false) := by show _ = _; rw [HOK.out]; rfl
      go_wp2_with fail
      go_meet
      case rel => exact ⟨by rw [FV.out], rfl⟩
    | true =>
    cases o2 with
    | false =>
      have FV : Hid (ok0 = false) := by show _ = _; rw [HOK.out]; rfl
      go_wp2_with fail
      go_meet
      case rel => exact ⟨by rw [FV.out], rfl⟩
    | true =>
    by_cases hM0 : M = []
    · have FV : Hid (ok0 = false) := by show _ = _; rw [HOK.out, hM0]; rfl
      subst hM0
      go_wp2_with fail
      go_meet
      case rel => exact ⟨by rw [FV.out], rfl⟩
    have hMb : (M == []) = false := by rw [beq_eq_false_iff_ne]; exact hM0
    have hMe : M.isEmpty = false := by
      cases M with
      | nil => exact absurd rfl hM0
      | cons _ _ => rfl
    by_cases hT0 : T = []
    · have FV : Hid (ok0 = false) := by show _ = _; rw [HOK.out, hT0, hMe]; rfl
      subst hT0
      clear hMe
      go_wp2_with fail
      go_meet
      case rel => exact ⟨by rw [FV.out], rfl⟩
    have hTb : (T == []) = false := by rw [beq_eq_false_iff_ne]; exact hT0
    have hTe : T.isEmpty = false := by
      cases T with
      | nil => exact absurd rfl hT0
      | cons _ _ => rfl
    by_cases h8 : V.length = 8
    · have h8' : ((V.length : Int) == 8) = true := by rw [beq_iff_eq]; omega
      have hsz : (⟨V.toArray⟩ : ByteArray).size = 8 := by simpa [ByteArray.size] using h8
      have hex : (⟨V.toArray⟩ : ByteArray).extract 0 5 = ⟨(V.take 5).toArray⟩ := extract_take _ _
      have E5 : ∀ (hh : 5 < (⟨V.toArray⟩ : ByteArray).size), digB ((⟨V.toArray⟩ : ByteArray)[5]'hh) = digB (V.getD 5 0) := fun hh => by rw [str_get V 5 hh]
      have E7 : ∀ (hh : 7 < (⟨V.toArray⟩ : ByteArray).size), digB ((⟨V.toArray⟩ : ByteArray)[7]'hh) = digB (V.getD 7 0) := fun hh => by rw [str_get V 7 hh]
      have E6 : ∀ (hh : 6 < (⟨V.toArray⟩ : ByteArray).size), ((((⟨V.toArray⟩ : ByteArray)[6]'hh).toNat : Int) == 46) = (V.getD 6 0 == 46) := fun hh => by rw [← str_get V 6 hh, u8_eq]; rfl
      have FV : Hid (ok0 = ((V.take 5 == http) && digB (V.getD 5 0) && V.getD 6 0 == 46 && digB (V.getD 7 0))) := by show _ = _; rw [HOK.out, hMe, hTe]; unfold formL; rw [h8]; simp
      have hhp : (V.take 5 == [72, 84, 84, 80, 47]) = (V.take 5 == http) := rfl
      generalize hpd : (V.take 5 == http) = hp at *
      have hpp : hp = true → V.take 5 = [72, 84, 84, 80, 47] := fun e => by rw [e] at hpd; exact beq_iff_eq.1 hpd
      have hpn : hp = false → ¬ V.take 5 = [72, 84, 84, 80, 47] := fun e => by rw [e] at hpd; rw [beq_eq_false_iff_ne] at hpd; exact hpd
      generalize digB (V.getD 5 0) = d5 at *
      generalize (V.getD 6 0 == 46) = x6 at *
      generalize digB (V.getD 7 0) = d7 at *
      clear h8 hMe hTe hpd
      cases hp
      · have hpn := hpn rfl
        clear hpp
        go_wp2_with fail
        go_meet
        case rel => exact ⟨by rw [FV.out]; rfl, rfl⟩
      · have hpp := hpp rfl
        clear hpn
        cases x6 <;> cases d5 <;> cases d7
        all_goals
          go_wp2_with (first
            | (go_at_call 74; refine (rDigit_any _ _).mono ?_; rintro e w' ⟨rfl, rfl⟩))
          go_meet
          case rel => exact ⟨by rw [FV.out]; rfl, rfl⟩
    · have h8' : ((V.length : Int) == 8) = false := by rw [beq_eq_false_iff_ne]; omega
      have FV : Hid (ok0 = false) := by show _ = _; rw [HOK.out, hMe, hTe]; unfold formL; simp [h8]
      clear h8 hMe hTe
      go_wp2_with fail
      go_meet
      case rel => exact ⟨by rw [FV.out], rfl⟩
  case rest =>
  obtain ⟨rfl, rfl⟩ := hcut
  obtain ⟨wA, rfl⟩ : ∃ wx : World, wx = wc := ⟨_, rfl⟩
  have HMM := Lib.hid (fun i (hi : i < (⟨M.toArray⟩ : ByteArray).size) => bt_at (s := ⟨M.toArray⟩) hi)
  have HTT := Lib.hid (fun i (hi : i < (⟨T.toArray⟩ : ByteArray).size) => bt_at (s := ⟨T.toArray⟩) hi)
  have HSM : Hid ((⟨M.toArray⟩ : ByteArray).size = M.length) := by show _ = _; simp [ByteArray.size]
  have HST : Hid ((⟨T.toArray⟩ : ByteArray).size = T.length) := by show _ = _; simp [ByteArray.size]
  have HNE : Hid (ok0 = true → V.length = 8) := fun e => by
    have h1 := HOK.out
    rw [e] at h1
    have h1 := h1.symm
    simp only [Bool.and_eq_true, formL, beq_iff_eq] at h1
    exact h1.2.1.1.1.1
  go_upto_region 4 with (fail)
  go_wp2
  go_loopg [10, 11] M.length (fun gg s_ok s_i wr => ∃ (i : Nat) (b : Bool), i ≤ M.length ∧ M.length - i ≤ gg ∧ s_i = .int .i64 i ∧ s_ok = .bool b ∧ Hid ((ok0 && (M.take i).all capB) = b) ∧ wr = wA)
  case atStart => exact ⟨0, _, Nat.zero_le _, by omega, rfl, rfl, (by show _ = _; simp), rfl⟩
  case round =>
    obtain ⟨i, b, hin, hg, rfl, rfl, HB, rfl⟩ := hrel
    go_upto_region 5 with (fail)
    go_cut [71] (fun sx wx => sx = .bool (decide (i < M.length) && b) ∧ wx = wr)
    case first =>
      by_cases hlt : i < M.length
      · have hltz : (i : Int) < (M.length : Int) := by omega
        have HD : Hid (decide (i < M.length) = true) := decide_eq_true hlt
        clear hlt
        go_wp2_with fail
        go_meet
        case rel => exact ⟨by rw [HD.out, Bool.true_and], rfl⟩
      · have hltz : (M.length : Int) ≤ (i : Int) := by omega
        have HD : Hid (decide (i < M.length) = false) := decide_eq_false hlt
        clear hlt
        go_wp2_with fail
        go_meet
        case rel => exact ⟨by rw [HD.out, Bool.false_and], rfl⟩
    case rest =>
    obtain ⟨rfl, rfl⟩ := hcut
    obtain ⟨wr, rfl⟩ : ∃ wx : World, wx = wc := ⟨_, rfl⟩
    by_cases hex : (decide (i < M.length) && b) = true
    · have hex2 := hex
      rw [Bool.and_eq_true, decide_eq_true_eq] at hex2
      obtain ⟨hlt, rfl⟩ := hex2
      have hltz : (i : Int) < (M.length : Int) := by omega
      rw [hex]
      obtain ⟨x, hx1, hx2, hx3, hx4⟩ := HMM.out i (by rw [HSM.out]; exact hlt)
      have hx256 := x.toNat_lt
      have HN : Hid ((ok0 && (M.take (i + 1)).all capB) = capB x) := all_step (by simpa using hx1) HB.out
      have hb := get_bt ⟨M.toArray⟩
      have hsz2 := HSM.out
      obtain ⟨n, hn⟩ : ∃ n : Int, bt ⟨M.toArray⟩ i = n := ⟨_, rfl⟩
      have hb2 : ∀ h : i < (⟨M.toArray⟩ : ByteArray).size, ((((⟨M.toArray⟩ : ByteArray)[i]'h).toNat : Nat) : Int) = n := fun h => by rw [hb, hn]
      have hkx : capB x = (decide (65 ≤ n) && decide (n ≤ 90)) := by rw [capB_int]; rw [show (x.toNat : Int) = n from by omega]
      rw [hkx] at HN
      clear hx1 hx2 hx3 hx4 hb hkx hex
      by_cases c1 : 65 ≤ n
      · by_cases c2 : n ≤ 90
        · have HV2 : Hid ((decide (65 ≤ n) && decide (n ≤ 90)) = true) := by show _ = _; rw [decide_eq_true c1, decide_eq_true c2]; rfl
          go_wp2_with fail
          go_roundg (M.length - (i + 1))
          case measure => omega
          case rel => exact ⟨i + 1, _, by omega, by omega, by go_num, rfl, (by show _ = _; rw [HN.out]; first | exact HV2.out | (rw [HV2.out]; symm; exact decide_eq_false (by omega)) | (rw [HV2.out]; symm; exact decide_eq_true (by omega))), rfl⟩
        · have c3 : 90 < n := by omega
          have HV2 : Hid ((decide (65 ≤ n) && decide (n ≤ 90)) = false) := by show _ = _; rw [decide_eq_false c2, Bool.and_false]
          clear c2
          go_wp2_with fail
          go_roundg (M.length - (i + 1))
          case measure => omega
          case rel => exact ⟨i + 1, _, by omega, by omega, by go_num, rfl, (by show _ = _; rw [HN.out]; first | exact HV2.out | (rw [HV2.out]; symm; exact decide_eq_false (by omega)) | (rw [HV2.out]; symm; exact decide_eq_true (by omega))), rfl⟩
      · have c3 : n < 65 := by omega
        have HV2 : Hid ((decide (65 ≤ n) && decide (n ≤ 90)) = false) := by show _ = _; rw [decide_eq_false c1, Bool.false_and]
        clear c1
        go_wp2_with fail
        go_roundg (M.length - (i + 1))
        case measure => omega
        case rel => exact ⟨i + 1, _, by omega, by omega, by go_num, rfl, (by show _ = _; rw [HN.out]; first | exact HV2.out | (rw [HV2.out]; symm; exact decide_eq_false (by omega)) | (rw [HV2.out]; symm; exact decide_eq_true (by omega))), rfl⟩
    · rw [Bool.not_eq_true] at hex
      have HF : Hid (b = (ok0 && M.all capB)) := by
        show _ = _
        have h1 := HB.out
        rw [← h1] at hex
        rw [← h1]
        exact all_take hin hex
      rw [hex]
      have hbf := HF.out
      subst hbf
      clear HB HF hex
      obtain ⟨wA, rfl⟩ : ∃ wx : World, wx = wr := ⟨_, rfl⟩
      obtain ⟨ok1, hok2⟩ : ∃ b2, (ok0 && M.all capB) = b2 := ⟨_, rfl⟩
      rw [hok2]
      rw [hok2] at HREQ
      have HNE1 : Hid (ok1 = true → V.length = 8) := fun e => by
        rw [← hok2, Bool.and_eq_true] at e
        exact HNE.out e.1
      clear hok2 HNE HMM HSM
      go_upto_region 8 with (fail)
      go_wp2
      go_loopg [10, 12] T.length (fun gg s_ok s_i wr => ∃ (i : Nat) (b : Bool), i ≤ T.length ∧ T.length - i ≤ gg ∧ s_i = .int .i64 i ∧ s_ok = .bool b ∧ Hid ((ok1 && (T.take i).all seenB) = b) ∧ wr = wA)
      case atStart => exact ⟨0, _, Nat.zero_le _, by omega, rfl, rfl, (by show _ = _; simp), rfl⟩
      case round =>
        obtain ⟨i, b, hin, hg, rfl, rfl, HB, rfl⟩ := hrel
        go_upto_region 9 with (fail)
        go_cut [90] (fun sx wx => sx = .bool (decide (i < T.length) && b) ∧ wx = wr)
        case first =>
          by_cases hlt : i < T.length
          · have hltz : (i : Int) < (T.length : Int) := by omega
            have HD : Hid (decide (i < T.length) = true) := decide_eq_true hlt
            clear hlt
            go_wp2_with fail
            go_meet
            case rel => exact ⟨by rw [HD.out, Bool.true_and], rfl⟩
          · have hltz : (T.length : Int) ≤ (i : Int) := by omega
            have HD : Hid (decide (i < T.length) = false) := decide_eq_false hlt
            clear hlt
            go_wp2_with fail
            go_meet
            case rel => exact ⟨by rw [HD.out, Bool.false_and], rfl⟩
        case rest =>
        obtain ⟨rfl, rfl⟩ := hcut
        obtain ⟨wr, rfl⟩ : ∃ wx : World, wx = wc := ⟨_, rfl⟩
        by_cases hex : (decide (i < T.length) && b) = true
        · have hex2 := hex
          rw [Bool.and_eq_true, decide_eq_true_eq] at hex2
          obtain ⟨hlt, rfl⟩ := hex2
          have hltz : (i : Int) < (T.length : Int) := by omega
          rw [hex]
          obtain ⟨x, hx1, hx2, hx3, hx4⟩ := HTT.out i (by rw [HST.out]; exact hlt)
          have hx256 := x.toNat_lt
          have HN : Hid ((ok1 && (T.take (i + 1)).all seenB) = seenB x) := all_step (by simpa using hx1) HB.out
          have hb := get_bt ⟨T.toArray⟩
          have hsz2 := HST.out
          obtain ⟨n, hn⟩ : ∃ n : Int, bt ⟨T.toArray⟩ i = n := ⟨_, rfl⟩
          have hb2 : ∀ h : i < (⟨T.toArray⟩ : ByteArray).size, ((((⟨T.toArray⟩ : ByteArray)[i]'h).toNat : Nat) : Int) = n := fun h => by rw [hb, hn]
          have hkx : seenB x = (decide (33 ≤ n) && decide (n ≤ 126)) := by rw [seen33_int]; rw [show (x.toNat : Int) = n from by omega]
          rw [hkx] at HN
          clear hx1 hx2 hx3 hx4 hb hkx hex
          by_cases c1 : 33 ≤ n
          · by_cases c2 : n ≤ 126
            · have HV2 : Hid ((decide (33 ≤ n) && decide (n ≤ 126)) = true) := by show _ = _; rw [decide_eq_true c1, decide_eq_true c2]; rfl
              go_wp2_with fail
              go_roundg (T.length - (i + 1))
              case measure => omega
              case rel => exact ⟨i + 1, _, by omega, by omega, by go_num, rfl, (by show _ = _; rw [HN.out]; first | exact HV2.out | (rw [HV2.out]; symm; exact decide_eq_false (by omega)) | (rw [HV2.out]; symm; exact decide_eq_true (by omega))), rfl⟩
            · have c3 : 126 < n := by omega
              have HV2 : Hid ((decide (33 ≤ n) && decide (n ≤ 126)) = false) := by show _ = _; rw [decide_eq_false c2, Bool.and_false]
              clear c2
              go_wp2_with fail
              go_roundg (T.length - (i + 1))
              case measure => omega
              case rel => exact ⟨i + 1, _, by omega, by omega, by go_num, rfl, (by show _ = _; rw [HN.out]; first | exact HV2.out | (rw [HV2.out]; symm; exact decide_eq_false (by omega)) | (rw [HV2.out]; symm; exact decide_eq_true (by omega))), rfl⟩
          · have c3 : n < 33 := by omega
            have HV2 : Hid ((decide (33 ≤ n) && decide (n ≤ 126)) = false) := by show _ = _; rw [decide_eq_false c1, Bool.false_and]
            clear c1
            go_wp2_with fail
            go_roundg (T.length - (i + 1))
            case measure => omega
            case rel => exact ⟨i + 1, _, by omega, by omega, by go_num, rfl, (by show _ = _; rw [HN.out]; first | exact HV2.out | (rw [HV2.out]; symm; exact decide_eq_false (by omega)) | (rw [HV2.out]; symm; exact decide_eq_true (by omega))), rfl⟩
        · rw [Bool.not_eq_true] at hex
          have HF : Hid (b = (ok1 && T.all seenB)) := by
            show _ = _
            have h1 := HB.out
            rw [← h1] at hex
            rw [← h1]
            exact all_take hin hex
          rw [hex]
          have hbf := HF.out
          subst hbf
          clear HB HF hex
          obtain ⟨wA, rfl⟩ : ∃ wx : World, wx = wr := ⟨_, rfl⟩
          obtain ⟨ok2, hok2⟩ : ∃ b2, (ok1 && T.all seenB) = b2 := ⟨_, rfl⟩
          rw [hok2]
          rw [hok2] at HREQ
          have HNE2 : Hid (ok2 = true → V.length = 8) := fun e => by
            rw [← hok2, Bool.and_eq_true] at e
            exact HNE1.out e.1
          clear hok2 HNE1 HTT HST
          cases ok2 with
          | false =>
            rw [if_pos rfl] at HREQ
            go_wp2_with fail
            refine (no_any ⟨_, _, _, _, K2.out⟩ 60).mono ?_
            rintro e w7 ⟨rfl, ms7, r7, m7⟩
            go_wp2_with fail
            first | go_end0 | (refine bodyPost_ret (results_none rfl _ _ _) rfl ?_)
            rw [HREQ.out]
            exact ⟨rfl, ms7, r7, M2.out.trans m7⟩
          | true =>
            rw [if_neg (by decide)] at HREQ
            have h8 := HNE2.out rfl
            have HME : Hid (methods.contains M = (M == [71, 69, 84] || M == [72, 69, 65, 68] || M == [80, 85, 84] || M == [80, 79, 83, 84] || M == [68, 69, 76, 69, 84, 69])) := by show _ = _; simp only [methods, List.contains_cons, List.contains_nil, Bool.or_false, Bool.or_assoc]
            go_upto_region 15 with (fail)
            go_cut [118] (fun sx wx => sx = .bool (!methods.contains M) ∧ wx = wA)
            case first =>
              by_cases m0 : M = [71, 69, 84]
              · have HC : Hid (methods.contains M = true) := by show _ = _; rw [m0]; rfl
                subst m0
                go_wp2_with fail
                go_meet
                case rel => exact ⟨rfl, rfl⟩
              have m0b : (M == [71, 69, 84]) = false := by rw [beq_eq_false_iff_ne]; exact m0
              by_cases m1 : M = [72, 69, 65, 68]
              · have HC : Hid (methods.contains M = true) := by show _ = _; rw [m1]; rfl
                subst m1
                go_wp2_with fail
                go_meet
                case rel => exact ⟨rfl, rfl⟩
              have m1b : (M == [72, 69, 65, 68]) = false := by rw [beq_eq_false_iff_ne]; exact m1
              by_cases m2 : M = [80, 85, 84]
              · have HC : Hid (methods.contains M = true) := by show _ = _; rw [m2]; rfl
                subst m2
                go_wp2_with fail
                go_meet
                case rel => exact ⟨rfl, rfl⟩
              have m2b : (M == [80, 85, 84]) = false := by rw [beq_eq_false_iff_ne]; exact m2
              by_cases m3 : M = [80, 79, 83, 84]
              · have HC : Hid (methods.contains M = true) := by show _ = _; rw [m3]; rfl
                subst m3
                go_wp2_with fail
                go_meet
                case rel => exact ⟨rfl, rfl⟩
              have m3b : (M == [80, 79, 83, 84]) = false := by rw [beq_eq_false_iff_ne]; exact m3
              by_cases m4 : M = [68, 69, 76, 69, 84, 69]
              · have HC : Hid (methods.contains M = true) := by show _ = _; rw [m4]; rfl
                subst m4
                go_wp2_with fail
                go_meet
                case rel => exact ⟨rfl, rfl⟩
              have m4b : (M == [68, 69, 76, 69, 84, 69]) = false := by rw [beq_eq_false_iff_ne]; exact m4
              have HC : Hid (methods.contains M = false) := by show _ = _; rw [HME.out, m0b, m1b, m2b, m3b, m4b]; rfl
              go_wp2_with fail
              go_meet
              case rel => exact ⟨by rw [HC.out]; rfl, rfl⟩
            case rest =>
            obtain ⟨rfl, rfl⟩ := hcut
            obtain ⟨wA, rfl⟩ : ∃ wx : World, wx = wc := ⟨_, rfl⟩
            generalize methods.contains M = mc at *
            cases mc with
            | false =>
              rw [if_pos rfl] at HREQ
              go_wp2_with fail
              refine (no_any ⟨_, _, _, _, K2.out⟩ 68).mono ?_
              rintro e w7 ⟨rfl, ms7, r7, m7⟩
              go_wp2_with fail
              first | go_end0 | (refine bodyPost_ret (results_none rfl _ _ _) rfl ?_)
              rw [HREQ.out]
              exact ⟨rfl, ms7, r7, M2.out.trans m7⟩
            | true =>
              rw [if_neg (by decide)] at HREQ
              by_cases v0 : V = [72, 84, 84, 80, 47, 49, 46, 48]
              · subst v0
                rw [if_neg (by decide)] at HREQ
                have r7 : wA.cell? ⟨rd, 7, none⟩ = some (.string ⟨s.meth.toArray⟩) := cell_of_heap K2.out.box
                have f7 : wA.frozen? ⟨rd, 7, none⟩ = false := free_of_heap K2.out.box
                have r8 : wA.cell? ⟨rd, 8, none⟩ = some (.string ⟨s.tgt.toArray⟩) := cell_of_heap K2.out.box
                have f8 : wA.frozen? ⟨rd, 8, none⟩ = false := free_of_heap K2.out.box
                have r9 : wA.cell? ⟨rd, 9, none⟩ = some (.int .i64 s.minor) := cell_of_heap K2.out.box
                have f9 : wA.frozen? ⟨rd, 9, none⟩ = false := free_of_heap K2.out.box
                have r10 : wA.cell? ⟨rd, 10, none⟩ = some vf := cell_of_heap K2.out.box
                have f10 : wA.frozen? ⟨rd, 10, none⟩ = false := free_of_heap K2.out.box
                have r11 : wA.cell? ⟨rd, 11, none⟩ = some (.string ⟨#[]⟩) := cell_of_heap K2.out.box
                have f11 : wA.frozen? ⟨rd, 11, none⟩ = false := free_of_heap K2.out.box
                have r12 : wA.cell? ⟨rd, 12, none⟩ = some (.bool false) := cell_of_heap K2.out.box
                have f12 : wA.frozen? ⟨rd, 12, none⟩ = false := free_of_heap K2.out.box
                have hm7 : ∀ h, ((((⟨#[72, 84, 84, 80, 47, 49, 46, 48]⟩ : ByteArray)[7]'h).toNat : Nat) : Int) = 48 := fun _ => rfl
                have HST := Lib.hid (K2.out.laid M T 0)
                have HFE : Hid ((s.start line) = { s with first := false, meth := M, tgt := T, minor := 0, fields := [] }) := by
                  show _ = _
                  rw [HREQ.out, ← hf0]; rfl
                go_wp2_with fail
                first | go_end0 | (refine bodyPost_ret (results_none rfl _ _ _) rfl ?_)
                rw [HFE.out]
                exact ⟨rfl, _, ⟨_, _, _, _, HST.out.1⟩, M2.out.trans HST.out.2⟩
              by_cases v1 : V = [72, 84, 84, 80, 47, 49, 46, 49]
              · subst v1
                rw [if_neg (by decide)] at HREQ
                have r7 : wA.cell? ⟨rd, 7, none⟩ = some (.string ⟨s.meth.toArray⟩) := cell_of_heap K2.out.box
                have f7 : wA.frozen? ⟨rd, 7, none⟩ = false := free_of_heap K2.out.box
                have r8 : wA.cell? ⟨rd, 8, none⟩ = some (.string ⟨s.tgt.toArray⟩) := cell_of_heap K2.out.box
                have f8 : wA.frozen? ⟨rd, 8, none⟩ = false := free_of_heap K2.out.box
                have r9 : wA.cell? ⟨rd, 9, none⟩ = some (.int .i64 s.minor) := cell_of_heap K2.out.box
                have f9 : wA.frozen? ⟨rd, 9, none⟩ = false := free_of_heap K2.out.box
                have r10 : wA.cell? ⟨rd, 10, none⟩ = some vf := cell_of_heap K2.out.box
                have f10 : wA.frozen? ⟨rd, 10, none⟩ = false := free_of_heap K2.out.box
                have r11 : wA.cell? ⟨rd, 11, none⟩ = some (.string ⟨#[]⟩) := cell_of_heap K2.out.box
                have f11 : wA.frozen? ⟨rd, 11, none⟩ = false := free_of_heap K2.out.box
                have r12 : wA.cell? ⟨rd, 12, none⟩ = some (.bool false) := cell_of_heap K2.out.box
                have f12 : wA.frozen? ⟨rd, 12, none⟩ = false := free_of_heap K2.out.box
                have hm7 : ∀ h, ((((⟨#[72, 84, 84, 80, 47, 49, 46, 49]⟩ : ByteArray)[7]'h).toNat : Nat) : Int) = 49 := fun _ => rfl
                have HST := Lib.hid (K2.out.laid M T 1)
                have HFE : Hid ((s.start line) = { s with first := false, meth := M, tgt := T, minor := 1, fields := [] }) := by
                  show _ = _
                  rw [HREQ.out, ← hf0]; rfl
                go_wp2_with fail
                first | go_end0 | (refine bodyPost_ret (results_none rfl _ _ _) rfl ?_)
                rw [HFE.out]
                exact ⟨rfl, _, ⟨_, _, _, _, HST.out.1⟩, M2.out.trans HST.out.2⟩
              rw [if_pos (by rw [Bool.and_eq_true, bne_iff_ne, bne_iff_ne]; exact ⟨v0, v1⟩)] at HREQ
              have v0b : (V == [72, 84, 84, 80, 47, 49, 46, 48]) = false := by rw [beq_eq_false_iff_ne]; exact v0
              have v1b : (V == [72, 84, 84, 80, 47, 49, 46, 49]) = false := by rw [beq_eq_false_iff_ne]; exact v1
              go_wp2_with fail
              refine (no_any ⟨_, _, _, _, K2.out⟩ 70).mono ?_
              rintro e w7 ⟨rfl, ms7, r7, m7⟩
              go_wp2_with fail
              first | go_end0 | (refine bodyPost_ret (results_none rfl _ _ _) rfl ?_)
              rw [HREQ.out]
              exact ⟨rfl, ms7, r7, M2.out.trans m7⟩

end Go.Proofs.YtdilmefeofdkmaaGreatDoor
