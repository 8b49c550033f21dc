/-
  WIRE: a chunk's line, by the document. (Printed by wip/gen/wxsize.py.)
-/
import Derived.Test.YtdilmefeofdkmaaGreatDoorWxField
namespace Go.Proofs.YtdilmefeofdkmaaGreatDoor
open Go.RowKit Go.PlainAid

theorem hexL_snoc (l : List UInt8) (c : UInt8) : hexL (l ++ [c]) = 16 * hexL l + hexD c := by simp [hexL, List.foldl_append]
theorem size_eq16 (s : QS) {line H V : List UInt8} {o : Bool} (h1 : cutAt 59 line = (H, V, o)) {b : Bool} (hb : ((decide (1 ≤ H.length) && decide (H.length ≤ 4)) && H.all hexB && V.all shownB) = b) :
    s.size line = if b = false then s.no 63 else if 8000 - (s.body.length : Int) < hexL H then s.no 65 else if hexL H = 0 then { s with inn := 5 } else { s with left := hexL H, inn := 3 } := by
  have hs : sizeOk line = b := by
    rw [← hb]
    unfold sizeOk allB
    rw [h1]
    simp only
    have : (!H.isEmpty) = decide (1 ≤ H.length) := by cases H <;> simp
    rw [this]
    generalize decide (1 ≤ H.length) = a1
    generalize decide (H.length ≤ 4) = a2
    generalize H.all hexB = a3
    cases a1 <;> cases a2 <;> cases a3 <;> rfl
  unfold QS.size
  rw [hs, h1]

set_option maxHeartbeats 16000000 in
set_option maxRecDepth 100000 in
theorem rSize_any {w : World} {rd : Nat} {ms : Nat → Prop} {s : QS} {out : List ReqV} (h : RefAt w rd ms s out) (line : List UInt8) (hl : line.length ≤ 140737488351232) (hbl : s.body.length ≤ 1000000000) :
    Calls Tryz.prog 59 #[.pointer (some ⟨rd, 0, none⟩), .string ⟨line.toArray⟩] w fun x w' => x = .returned (.tuple #[]) ∧ RfPost w rd ms (s.size line) out w' := by
  have hc1 := cutAt_len 59 line
  have HC1 : Hid (∀ W, Calls Tryz.prog 84 #[.string ⟨line.toArray⟩, .int .u8 59] W fun e w' => e = .returned (.tuple #[.string ⟨(cutAt 59 line).1.toArray⟩, .string ⟨(cutAt 59 line).2.1.toArray⟩, .bool (cutAt 59 line).2.2]) ∧ Below W.heap.size W w') := fun W => split_list line 59 W hl
  generalize hc : cutAt 59 line = c at *
  obtain ⟨H, V, o⟩ := c
  simp only at hc1 HC1
  have HREQ := Lib.hid (size_eq16 s hc rfl)
  obtain ⟨vo, vl, vf, vb, hI⟩ := h
  obtain ⟨ab, cb, rfl⟩ := row_form hI.body
  have HA := Lib.hid hI
  have hV : V.length ≤ 140737488351232 := by omega
  have hH : H.length ≤ 140737488351232 := by omega
  have HVV := Lib.hid (fun i (hi : i < (⟨V.toArray⟩ : ByteArray).size) => bt_at (s := ⟨V.toArray⟩) hi)
  have HSV : Hid ((⟨V.toArray⟩ : ByteArray).size = V.length) := by show _ = _; simp [ByteArray.size]
  have HHH := Lib.hid (fun i (hi : i < (⟨H.toArray⟩ : ByteArray).size) => bt_at (s := ⟨H.toArray⟩) hi)
  have HSH : Hid ((⟨H.toArray⟩ : ByteArray).size = H.length) := by show _ = _; simp [ByteArray.size]
  clear hI hc1 hc hl
  go_enter Tryz.func59, Tryz.ntmps59
  go_wp2_with fail
  refine (HC1.out _).mono ?_
  rintro e w1 ⟨rfl, hb1⟩
  have K2 := Lib.hid (HA.out.later hb1)
  have M2 := Lib.hid ((Xv.refl w ms).later hb1)
  clear hb1 HA HC1
  obtain ⟨wA, rfl⟩ : ∃ wx : World, wx = w1 := ⟨_, rfl⟩
  have HOB : Hid ((decide (1 ≤ H.length) && decide (H.length ≤ 4)) = true → H.length ≤ 4) := fun e => by
    rw [Bool.and_eq_true, decide_eq_true_eq, decide_eq_true_eq] at e
    exact e.2
  go_upto_region 2 with (fail)
  go_cut [8] (fun sx wx => sx = .bool (decide (1 ≤ H.length) && decide (H.length ≤ 4)) ∧ wx = wA)
  case first =>
    by_cases c1 : 1 ≤ H.length
    · have z1 : (1 : Int) ≤ (H.length : Int) := by omega
      have HD1 : Hid (decide (1 ≤ H.length) = true) := decide_eq_true c1
      by_cases c2 : H.length ≤ 4
      · have z2 : (H.length : Int) ≤ 4 := by omega
        have HD2 : Hid (decide (H.length ≤ 4) = true) := decide_eq_true c2
        clear c1 c2
        go_wp2_with fail
        go_meet
        case rel => exact ⟨by rw [HD1.out, HD2.out]; first | rfl | exact congrArg Value.bool (decide_eq_false (by omega)) | exact congrArg Value.bool (decide_eq_true (by omega)), rfl⟩
      · have z2 : 4 < (H.length : Int) := by omega
        have HD2 : Hid (decide (H.length ≤ 4) = false) := decide_eq_false c2
        clear c1 c2
        go_wp2_with fail
        go_meet
        case rel => exact ⟨by rw [HD1.out, HD2.out]; first | rfl | exact congrArg Value.bool (decide_eq_false (by omega)) | exact congrArg Value.bool (decide_eq_true (by omega)), rfl⟩
    · have z1 : (H.length : Int) < 1 := by omega
      have HD1 : Hid (decide (1 ≤ H.length) = false) := decide_eq_false c1
      clear c1
      go_wp2_with fail
      go_meet
      case rel => exact ⟨by rw [HD1.out]; rfl, rfl⟩
  case rest =>
  obtain ⟨rfl, rfl⟩ := hcut
  obtain ⟨wA, rfl⟩ : ∃ wx : World, wx = wc := ⟨_, rfl⟩
  generalize (decide (1 ≤ H.length) && decide (H.length ≤ 4)) = ok0 at *
  go_upto_region 3 with (fail)
  go_wp2
  go_loopg [7, 8, 9, 10] H.length (fun gg s7 s8 s9 _ wr => ∃ (i : Nat) (b : Bool) (acc : Int), i ≤ H.length ∧ H.length - i ≤ gg ∧ s9 = .int .i64 i ∧ s8 = .bool b ∧ s7 = .int .i64 acc ∧ Hid ((ok0 && (H.take i).all hexB) = b) ∧ Hid (b = true → acc = hexL (H.take i) ∧ 0 ≤ acc ∧ acc < ((16 ^ i : Nat) : Int)) ∧ wr = wA)
  case atStart => exact ⟨0, _, 0, Nat.zero_le _, by omega, rfl, rfl, rfl, (by show _ = _; simp), (fun _ => ⟨rfl, by omega, by decide⟩), rfl⟩
  case round =>
    obtain ⟨i, b, acc, hin, hg, rfl, rfl, rfl, HB, HAC, rfl⟩ := hrel
    go_upto_region 4 with (fail)
    go_cut [32] (fun sx wx => sx = .bool (decide (i < H.length) && b) ∧ wx = wr)
    case first =>
      by_cases hlt : i < H.length
      · have hltz : (i : Int) < (H.length : Int) := by omega
        have HD : Hid (decide (i < H.length) = true) := decide_eq_true hlt
        clear hlt
        go_wp2_with fail
        go_meet
        case rel => exact ⟨by rw [HD.out, Bool.true_and], rfl⟩
      · have hltz : (H.length : Int) ≤ (i : Int) := by omega
        have HD : Hid (decide (i < H.length) = false) := decide_eq_false hlt
        clear hlt
        go_wp2_with fail
        go_meet
        case rel => exact ⟨by rw [HD.out, Bool.false_and], rfl⟩
    case rest =>
    obtain ⟨rfl, rfl⟩ := hcut
    obtain ⟨wr, rfl⟩ : ∃ wx : World, wx = wc := ⟨_, rfl⟩
    by_cases hex : (decide (i < H.length) && b) = true
    · have hex2 := hex
      rw [Bool.and_eq_true, decide_eq_true_eq] at hex2
      obtain ⟨hlt, rfl⟩ := hex2
      have hltz : (i : Int) < (H.length : Int) := by omega
      rw [hex]
      obtain ⟨x, hx1, hx2, hx3, hx4⟩ := HHH.out i (by rw [HSH.out]; exact hlt)
      have hx1 : H[i]? = some x := hx1
      have hx3 : H.take (i + 1) = H.take i ++ [x] := hx3
      have HX3 := Lib.hid hx3
      have HN : Hid ((ok0 && (H.take (i + 1)).all hexB) = hexB x) := all_step hx1 HB.out
      obtain ⟨ha1, ha2, ha3⟩ := HAC.out rfl
      have h4 : H.length ≤ 4 := HOB.out (by have h1 := HB.out; rw [Bool.and_eq_true] at h1; exact h1.1)
      have hp : 16 ^ (i + 1) ≤ 16 ^ 4 := Nat.pow_le_pow_right (by decide) (by omega)
      have hpq : 16 ^ (i + 1) = 16 ^ i * 16 := Nat.pow_succ _ _
      have h44 : 16 ^ 4 = 65536 := by decide
      have hab : acc ≤ 65535 := by omega
      have HPOW : Hid (((16 ^ (i + 1) : Nat) : Int) = 16 * ((16 ^ i : Nat) : Int)) := by show _ = _; rw [hpq]; omega
      have HACC := Lib.hid (And.intro ha1 ha3)
      have hb := get_bt ⟨H.toArray⟩
      have hsz2 := HSH.out
      have HSX := Lib.hid (sixV_hex x)
      have HCX := Lib.hid (fun W => sixteenth_any x W)
      obtain ⟨n, hn⟩ : ∃ n : Int, bt ⟨H.toArray⟩ i = n := ⟨_, rfl⟩
      have hb2 : ∀ h : i < (⟨H.toArray⟩ : ByteArray).size, ((((⟨H.toArray⟩ : ByteArray)[i]'h).toNat : Nat) : Int) = n := fun h => by rw [hb, hn]
      rw [show (x.toNat : Int) = n from by omega] at HCX
      generalize sixV x = d at *
      clear hx1 hx2 hx3 hx4 hb hex hp hpq h44 ha1 ha3 HB HAC
      cases hhx : hexB x
      · have hd : d = -1 := HSX.out.2 hhx
        subst hd
        rw [hhx] at HN
        clear hhx
        go_wp2_with fail
        refine (HCX.out _).mono ?_
        rintro e w4 ⟨rfl, rfl⟩
        go_wp2_with fail
        go_roundg (H.length - (i + 1))
        case measure => omega
        case rel => exact ⟨i + 1, _, _, by omega, by omega, by go_num, rfl, rfl, HN, (fun e => by cases e), rfl⟩
      · obtain ⟨hd1, hd2, hd3⟩ := HSX.out.1 hhx
        have hd4 : 0 ≤ d := by omega
        have hd5 : d ≤ 15 := by omega
        have HD1 := Lib.hid hd1
        rw [hhx] at HN
        clear hhx hd1 hd2 hd3
        go_wp2_with fail
        refine (HCX.out _).mono ?_
        rintro e w4 ⟨rfl, rfl⟩
        go_wp2_with fail
        go_roundg (H.length - (i + 1))
        case measure => omega
        case rel => exact ⟨i + 1, true, 16 * acc + d, by omega, by omega, by go_num, (by first | rfl | (congr 1; simp; omega)), (by go_num), HN, (fun _ => ⟨by rw [HX3.out, hexL_snoc, ← HACC.out.1, HD1.out], by omega, by rw [HPOW.out]; have := HACC.out.2; omega⟩), rfl⟩
    · rw [Bool.not_eq_true] at hex
      have HF : Hid (b = (ok0 && H.all hexB)) := by
        show _ = _
        have h1 := HB.out
        rw [← h1] at hex
        rw [← h1]
        exact all_take hin hex
      have HAL : Hid ((ok0 && H.all hexB) = true → acc = hexL H ∧ 0 ≤ acc ∧ acc ≤ 65535) := fun e => by
        have hbt : b = true := HF.out.trans e
        obtain ⟨h1, h2, h3⟩ := HAC.out hbt
        rw [hbt, Bool.and_true, decide_eq_false_iff_not] at hex
        have hi : i = H.length := by omega
        have h4 : H.length ≤ 4 := HOB.out (by rw [Bool.and_eq_true] at e; exact e.1)
        have hp : 16 ^ i ≤ 16 ^ 4 := Nat.pow_le_pow_right (by decide) (by omega)
        have h44 : 16 ^ 4 = 65536 := by decide
        refine ⟨?_, h2, by omega⟩
        rw [h1, hi, List.take_length]
      rw [hex]
      have hbf := HF.out
      subst hbf
      clear HB HF hex HAC HHH HSH
      obtain ⟨wA, rfl⟩ : ∃ wx : World, wx = wr := ⟨_, rfl⟩
      obtain ⟨ok1, hok1⟩ : ∃ b2, (ok0 && H.all hexB) = b2 := ⟨_, rfl⟩
      rw [hok1] at HAL HREQ ⊢
      clear hok1 hin hg
      go_upto_region 9 with (fail)
      go_wp2
      go_loopg [8, 11] V.length (fun gg s_ok s_i wr => ∃ (i : Nat) (b : Bool), i ≤ V.length ∧ V.length - i ≤ gg ∧ s_i = .int .i64 i ∧ s_ok = .bool b ∧ Hid ((ok1 && (V.take i).all shownB) = b) ∧ wr = wA)
      case atStart => exact ⟨0, _, Nat.zero_le _, by omega, rfl, rfl, (by show _ = _; simp), rfl⟩
      case round =>
        obtain ⟨i, b, hin, hg, rfl, rfl, HB, rfl⟩ := hrel
        go_upto_region 10 with (fail)
        go_cut [51] (fun sx wx => sx = .bool (decide (i < V.length) && b) ∧ wx = wr)
        case first =>
          by_cases hlt : i < V.length
          · have hltz : (i : Int) < (V.length : Int) := by omega
            have HD : Hid (decide (i < V.length) = true) := decide_eq_true hlt
            clear hlt
            go_wp2_with fail
            go_meet
            case rel => exact ⟨by rw [HD.out, Bool.true_and], rfl⟩
          · have hltz : (V.length : Int) ≤ (i : Int) := by omega
            have HD : Hid (decide (i < V.length) = false) := decide_eq_false hlt
            clear hlt
            go_wp2_with fail
            go_meet
            case rel => exact ⟨by rw [HD.out, Bool.false_and], rfl⟩
        case rest =>
        obtain ⟨rfl, rfl⟩ := hcut
        obtain ⟨wr, rfl⟩ : ∃ wx : World, wx = wc := ⟨_, rfl⟩
        by_cases hex : (decide (i < V.length) && b) = true
        · have hex2 := hex
          rw [Bool.and_eq_true, decide_eq_true_eq] at hex2
          obtain ⟨hlt, rfl⟩ := hex2
          have hltz : (i : Int) < (V.length : Int) := by omega
          rw [hex]
          obtain ⟨x, hx1, hx2, hx3, hx4⟩ := HVV.out i (by rw [HSV.out]; exact hlt)
          have hx256 := x.toNat_lt
          have HN : Hid ((ok1 && (V.take (i + 1)).all shownB) = shownB x) := all_step (by simpa using hx1) HB.out
          have hb := get_bt ⟨V.toArray⟩
          have hsz2 := HSV.out
          obtain ⟨n, hn⟩ : ∃ n : Int, bt ⟨V.toArray⟩ i = n := ⟨_, rfl⟩
          have hb2 : ∀ h : i < (⟨V.toArray⟩ : ByteArray).size, ((((⟨V.toArray⟩ : ByteArray)[i]'h).toNat : Nat) : Int) = n := fun h => by rw [hb, hn]
          have hkx : shownB x = ((decide (32 ≤ n) && !(n == 127)) || n == 9) := by rw [shownB_int]; rw [show (x.toNat : Int) = n from by omega]
          rw [hkx] at HN
          clear hx1 hx2 hx3 hx4 hb hkx hex
          obtain ⟨e9, he9⟩ : ∃ y, (n == 9) = y := ⟨_, rfl⟩
          obtain ⟨e127, he127⟩ : ∃ y, (n == 127) = y := ⟨_, rfl⟩
          have he127n : (n != 127) = !e127 := by rw [bne, he127]
          rw [he9, he127] at HN
          by_cases c1 : 32 ≤ n
          · cases e127
            · have HN2 : Hid ((ok1 && (V.take (i + 1)).all shownB) = true) := by show _ = _; rw [HN.out, decide_eq_true c1]; rfl
              go_wp2_with fail
              go_roundg (V.length - (i + 1))
              case measure => omega
              case rel => exact ⟨i + 1, _, by omega, by omega, by go_num, rfl, HN2, rfl⟩
            · have HN2 : Hid ((ok1 && (V.take (i + 1)).all shownB) = e9) := by show _ = _; rw [HN.out, decide_eq_true c1]; rfl
              go_wp2_with fail
              go_roundg (V.length - (i + 1))
              case measure => omega
              case rel => exact ⟨i + 1, _, by omega, by omega, by go_num, rfl, (by first | exact HN2 | (show _ = _; rw [he9]; exact HN2.out)), rfl⟩
          · have c3 : n < 32 := by omega
            have HN2 : Hid ((ok1 && (V.take (i + 1)).all shownB) = e9) := by show _ = _; rw [HN.out, decide_eq_false c1]; rfl
            clear c1
            go_wp2_with fail
            go_roundg (V.length - (i + 1))
            case measure => omega
            case rel => exact ⟨i + 1, _, by omega, by omega, by go_num, rfl, (by first | exact HN2 | (show _ = _; rw [he9]; exact HN2.out)), rfl⟩
        · rw [Bool.not_eq_true] at hex
          have HF : Hid (b = (ok1 && V.all shownB)) := by
            show _ = _
            have h1 := HB.out
            rw [← h1] at hex
            rw [← h1]
            exact all_take hin hex
          rw [hex]
          have hbf := HF.out
          subst hbf
          clear HB HF hex
          obtain ⟨wA, rfl⟩ : ∃ wx : World, wx = wr := ⟨_, rfl⟩
          obtain ⟨ok2, hok2⟩ : ∃ b2, (ok1 && V.all shownB) = b2 := ⟨_, rfl⟩
          rw [hok2]
          rw [hok2] at HREQ
          have HAL2 : Hid (ok2 = true → acc = hexL H ∧ 0 ≤ acc ∧ acc ≤ 65535) := fun e => HAL.out (by rw [← hok2, Bool.and_eq_true] at e; exact e.1)
          clear hok2 HAL
          cases ok2 with
          | false =>
            rw [if_pos rfl] at HREQ
            go_wp2_with fail
            refine (no_any ⟨_, _, _, _, K2.out⟩ 63).mono ?_
            rintro e w7 ⟨rfl, ms7, r7, m7⟩
            go_wp2_with fail
            first | go_end0 | (refine bodyPost_ret (results_none rfl _ _ _) rfl ?_)
            rw [HREQ.out]
            exact ⟨rfl, ms7, r7, M2.out.trans m7⟩
          | true =>
            rw [if_neg (by decide)] at HREQ
            obtain ⟨hacc, hacc0, hacc1⟩ := HAL2.out rfl
            rw [← hacc] at HREQ
            clear hacc HAL2
            have q5 : wA.cell? ⟨rd, 5, none⟩ = some (.slice ab s.body.length cb) := cell_of_heap K2.out.box
            have q0 : wA.cell? ⟨rd, 0, none⟩ = some (.int .i64 s.inn) := cell_of_heap K2.out.box
            have f0 : wA.frozen? ⟨rd, 0, none⟩ = false := free_of_heap K2.out.box
            have q6 : wA.cell? ⟨rd, 6, none⟩ = some (.int .i64 s.left) := cell_of_heap K2.out.box
            have f6 : wA.frozen? ⟨rd, 6, none⟩ = false := free_of_heap K2.out.box
            by_cases h8 : 8000 - (s.body.length : Int) < acc
            · rw [if_pos h8] at HREQ
              go_wp2_with fail
              refine (no_any ⟨_, _, _, _, K2.out⟩ 65).mono ?_
              rintro e w7 ⟨rfl, ms7, r7, m7⟩
              go_wp2_with fail
              first | go_end0 | (refine bodyPost_ret (results_none rfl _ _ _) rfl ?_)
              rw [HREQ.out]
              exact ⟨rfl, ms7, r7, M2.out.trans m7⟩
            · rw [if_neg h8] at HREQ
              have h9 : acc ≤ 8000 - (s.body.length : Int) := by omega
              have h9d : decide (8000 - (s.body.length : Int) < acc) = false := decide_eq_false h8
              clear h8
              by_cases hz : acc = 0
              · rw [if_pos hz] at HREQ
                have hz' := beq_int_true hz
                clear hz
                go_wp2_with fail
                first | go_end0 | (refine bodyPost_ret (results_none rfl _ _ _) rfl ?_)
                rw [HREQ.out]
                exact ⟨rfl, _, ⟨_, _, _, _, K2.out.set 0 (.int .i64 5) { s with inn := 5 } rfl rfl rfl rfl⟩, M2.out.trans (K2.out.mvSet 0 _)⟩
              · rw [if_neg hz] at HREQ
                have hz' := beq_int_false hz
                clear hz
                go_wp2_with fail
                first | go_end0 | (refine bodyPost_ret (results_none rfl _ _ _) rfl ?_)
                rw [HREQ.out]
                have k1 := K2.out.set 6 (.int .i64 acc) { s with left := acc } rfl rfl rfl rfl
                exact ⟨rfl, _, ⟨_, _, _, _, k1.set 0 (.int .i64 3) { s with left := acc, inn := 3 } rfl rfl rfl rfl⟩, (M2.out.trans (K2.out.mvSet 6 _)).trans (k1.mvSet 0 _)⟩

end Go.Proofs.YtdilmefeofdkmaaGreatDoor
