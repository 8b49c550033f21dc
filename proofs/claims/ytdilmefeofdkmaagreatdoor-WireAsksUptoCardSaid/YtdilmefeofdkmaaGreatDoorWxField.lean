/-
  WIRE: a field's line, by the document. (Printed by wip/gen/wxfield.py.)
-/
import Derived.Test.YtdilmefeofdkmaaGreatDoorWxStart
import Derived.Test.YtdilmefeofdkmaaGreatDoorSm5
import Derived.Lib.Space
namespace Go.Proofs.YtdilmefeofdkmaaGreatDoor
open Go.RowKit Go.PlainAid

theorem qfield_eq (s : QS) {line nm V : List UInt8} {o : Bool} (h1 : cutAt 58 line = (nm, V, o)) : s.field line = if (o && allB nm nameB && V.all shownB) = true then { s with fields := s.fields ++ [(smallL nm, trimL V)] } else s.no 61 := by
  unfold QS.field
  simp only [h1]
theorem trimL_cut (V : List UInt8) (k m : Nat) (hkm : k ≤ m) (hm : m ≤ V.length) (h1 : ∀ j b, j < k → V[j]? = some b → blankB b = true) (h2 : ∀ j b, m ≤ j → V[j]? = some b → blankB b = true) (h3 : ∀ b, V[k]? = some b → blankB b = false) (h4 : k < m → ∀ b, V[m - 1]? = some b → blankB b = false) : trimL V = (V.drop k).take (m - k) := by
  unfold trimL
  have hrev : ∀ j, j < V.length → V.reverse[j]? = V[V.length - 1 - j]? := fun j hj => List.getElem?_reverse hj
  have h2' : ∀ m', (∀ j b, m' ≤ j → V[j]? = some b → blankB b = true) → ∀ j b, j < V.length - m' → V.reverse[j]? = some b → blankB b = true := fun m' h j b hj hb => by
    rw [hrev j (by omega)] at hb
    exact h _ b (by omega) hb
  by_cases hlt : k < m
  · have e1 : V.reverse.dropWhile blankB = V.reverse.drop (V.length - m) := by
      refine Lib.dropWhile_drop blankB V.reverse _ (h2' m h2) (fun b hb => ?_) (by simp)
      rw [hrev _ (by omega), show V.length - 1 - (V.length - m) = m - 1 from by omega] at hb
      exact h4 hlt b hb
    have e2 : (V.reverse.drop (V.length - m)).reverse = V.take m := by
      rw [List.reverse_drop, List.reverse_reverse, List.length_reverse, show V.length - (V.length - m) = m from by omega]
    rw [e1, e2]
    have e3 : (V.take m).dropWhile blankB = (V.take m).drop k := by
      refine Lib.dropWhile_drop blankB (V.take m) k (fun j b hj hb => ?_) (fun b hb => ?_) (by rw [List.length_take]; omega)
      · rw [List.getElem?_take, if_pos (by omega)] at hb
        exact h1 j b hj hb
      · rw [List.getElem?_take, if_pos hlt] at hb
        exact h3 b hb
    rw [e3, List.drop_take]
  · have hk : k = m := by omega
    subst hk
    have hkl : k = V.length := by
      by_cases h : k < V.length
      · have h5 := h3 V[k] (List.getElem?_eq_getElem h)
        rw [h2 k V[k] (Nat.le_refl _) (List.getElem?_eq_getElem h)] at h5
        cases h5
      · omega
    have e1 : V.reverse.dropWhile blankB = V.reverse.drop (V.length - 0) := by
      refine Lib.dropWhile_drop blankB V.reverse _ (h2' 0 (fun j b _ hb => ?_)) (fun b hb => ?_) (by simp)
      · exact h1 j b (by rw [hkl]; exact (List.getElem?_eq_some_iff.1 hb).1) hb
      · simp at hb
    rw [e1, List.drop_of_length_le (by simp)]
    simp

set_option maxHeartbeats 16000000 in
set_option maxRecDepth 100000 in
theorem rField1_any {w : World} {rd : Nat} {ms : Nat → Prop} {s : QS} {out : List ReqV} (h : RefAt w rd ms s out) (line : List UInt8) (hl : line.length ≤ 140737488351232) (hfl : s.fields.length ≤ 1000000) :
    Calls Tryz.prog 82 #[.pointer (some ⟨rd, 0, none⟩), .string ⟨line.toArray⟩] w fun x w' => x = .returned (.tuple #[]) ∧ RfPost w rd ms (s.field line) out w' := by
  obtain ⟨j0, ji, jz0, jz1, jz2⟩ := info_pair
  have hc1 := cutAt_len 58 line
  have HC1 : Hid (∀ W, Calls Tryz.prog 84 #[.string ⟨line.toArray⟩, .int .u8 58] W fun e w' => e = .returned (.tuple #[.string ⟨(cutAt 58 line).1.toArray⟩, .string ⟨(cutAt 58 line).2.1.toArray⟩, .bool (cutAt 58 line).2.2]) ∧ Below W.heap.size W w') := fun W => split_list line 58 W hl
  generalize hc : cutAt 58 line = c at *
  obtain ⟨nm, V, o⟩ := c
  simp only at hc1 HC1
  have HREQ := Lib.hid (qfield_eq s hc)
  obtain ⟨vo, vl, vf, vb, hI⟩ := h
  obtain ⟨af, cf, rfl⟩ := row_form hI.flds
  have HA := Lib.hid hI
  have hV : V.length ≤ 140737488351232 := by omega
  have HNM : Hid (∀ W, Calls Tryz.prog 45 #[.string ⟨nm.toArray⟩] W fun e w' => e = .returned (.bool (allB nm nameB)) ∧ w' = W) := fun W => rName_any ⟨nm.toArray⟩ W (by simp [ByteArray.size]; omega)
  have HSM := Lib.hid (fun W => rSmall_any nm (by omega) W)
  obtain ⟨x1, hx1⟩ : ∃ x, allB nm nameB = x := ⟨_, rfl⟩
  rw [hx1] at HNM HREQ
  have HVV := Lib.hid (fun i (hi : i < (⟨V.toArray⟩ : ByteArray).size) => bt_at (s := ⟨V.toArray⟩) hi)
  have HSV : Hid ((⟨V.toArray⟩ : ByteArray).size = V.length) := by show _ = _; simp [ByteArray.size]
  clear hI hc1 hc hl hx1
  go_enter Tryz.func82, Tryz.ntmps82
  go_wp2_with fail
  refine (HC1.out _).mono ?_
  rintro e w1 ⟨rfl, hb1⟩
  have K2 := Lib.hid (HA.out.later hb1)
  have M2 := Lib.hid ((Xv.refl w ms).later hb1)
  clear hb1 HA HC1
  go_wp2_with fail
  refine (HNM.out _).mono ?_
  rintro e wA ⟨rfl, rfl⟩
  go_upto_region 2 with (fail)
  go_wp2
  go_loopg [6, 8] V.length (fun gg s_ok s_i wr => ∃ (i : Nat) (b : Bool), i ≤ V.length ∧ V.length - i ≤ gg ∧ s_i = .int .i64 i ∧ s_ok = .bool b ∧ Hid ((o && (V.take i).all shownB) = b) ∧ wr = wA)
  case atStart => exact ⟨0, _, Nat.zero_le _, by omega, rfl, rfl, (by show _ = _; simp), rfl⟩
  case round =>
    obtain ⟨i, b, hin, hg, rfl, rfl, HB, rfl⟩ := hrel
    go_upto_region 3 with (fail)
    go_cut [25] (fun sx wx => sx = .bool (decide (i < V.length) && b) ∧ wx = wr)
    case first =>
      by_cases hlt : i < V.length
      · have hltz : (i : Int) < (V.length : Int) := by omega
        have HD : Hid (decide (i < V.length) = true) := decide_eq_true hlt
        clear hlt
        go_wp2_with fail
        go_meet
        case rel => exact ⟨by rw [HD.out, Bool.true_and], rfl⟩
      · have hltz : (V.length : Int) ≤ (i : Int) := by omega
        have HD : Hid (decide (i < V.length) = false) := decide_eq_false hlt
        clear hlt
        go_wp2_with fail
        go_meet
        case rel => exact ⟨by rw [HD.out, Bool.false_and], rfl⟩
    case rest =>
    obtain ⟨rfl, rfl⟩ := hcut
    obtain ⟨wr, rfl⟩ : ∃ wx : World, wx = wc := ⟨_, rfl⟩
    by_cases hex : (decide (i < V.length) && b) = true
    · have hex2 := hex
      rw [Bool.and_eq_true, decide_eq_true_eq] at hex2
      obtain ⟨hlt, rfl⟩ := hex2
      have hltz : (i : Int) < (V.length : Int) := by omega
      rw [hex]
      obtain ⟨x, hx1, hx2, hx3, hx4⟩ := HVV.out i (by rw [HSV.out]; exact hlt)
      have hx256 := x.toNat_lt
      have HN : Hid ((o && (V.take (i + 1)).all shownB) = shownB x) := all_step (by simpa using hx1) HB.out
      have hb := get_bt ⟨V.toArray⟩
      have hsz2 := HSV.out
      obtain ⟨n, hn⟩ : ∃ n : Int, bt ⟨V.toArray⟩ i = n := ⟨_, rfl⟩
      have hb2 : ∀ h : i < (⟨V.toArray⟩ : ByteArray).size, ((((⟨V.toArray⟩ : ByteArray)[i]'h).toNat : Nat) : Int) = n := fun h => by rw [hb, hn]
      have hkx : shownB x = ((decide (32 ≤ n) && !(n == 127)) || n == 9) := by rw [shownB_int]; rw [show (x.toNat : Int) = n from by omega]
      rw [hkx] at HN
      clear hx1 hx2 hx3 hx4 hb hkx hex
      obtain ⟨e9, he9⟩ : ∃ y, (n == 9) = y := ⟨_, rfl⟩
      obtain ⟨e127, he127⟩ : ∃ y, (n == 127) = y := ⟨_, rfl⟩
      have he127n : (n != 127) = !e127 := by rw [bne, he127]
      rw [he9, he127] at HN
      by_cases c1 : 32 ≤ n
      · cases e127
        · have HN2 : Hid ((o && (V.take (i + 1)).all shownB) = true) := by show _ = _; rw [HN.out, decide_eq_true c1]; rfl
          go_wp2_with fail
          go_roundg (V.length - (i + 1))
          case measure => omega
          case rel => exact ⟨i + 1, _, by omega, by omega, by go_num, rfl, HN2, rfl⟩
        · have HN2 : Hid ((o && (V.take (i + 1)).all shownB) = e9) := by show _ = _; rw [HN.out, decide_eq_true c1]; rfl
          go_wp2_with fail
          go_roundg (V.length - (i + 1))
          case measure => omega
          case rel => exact ⟨i + 1, _, by omega, by omega, by go_num, rfl, (by first | exact HN2 | (show _ = _; rw [he9]; exact HN2.out)), rfl⟩
      · have c3 : n < 32 := by omega
        have HN2 : Hid ((o && (V.take (i + 1)).all shownB) = e9) := by show _ = _; rw [HN.out, decide_eq_false c1]; rfl
        clear c1
        go_wp2_with fail
        go_roundg (V.length - (i + 1))
        case measure => omega
        case rel => exact ⟨i + 1, _, by omega, by omega, by go_num, rfl, (by first | exact HN2 | (show _ = _; rw [he9]; exact HN2.out)), rfl⟩
    · rw [Bool.not_eq_true] at hex
      have HF : Hid (b = (o && V.all shownB)) := by
        show _ = _
        have h1 := HB.out
        rw [← h1] at hex
        rw [← h1]
        exact all_take hin hex
      rw [hex]
      have hbf := HF.out
      subst hbf
      clear HB HF hex
      obtain ⟨wA, rfl⟩ : ∃ wx : World, wx = wr := ⟨_, rfl⟩
      obtain ⟨ok1, hok2⟩ : ∃ b2, (o && V.all shownB) = b2 := ⟨_, rfl⟩
      rw [hok2]
      have HOKE : Hid ((o && x1 && V.all shownB) = (x1 && ok1)) := by show _ = _; rw [← hok2]; cases o <;> cases x1 <;> rfl
      rw [HOKE.out] at HREQ
      clear hok2 HOKE HNM
      cases ok1 with
      | false =>
        rw [Bool.and_false, if_neg (by simp)] at HREQ
        go_wp2_with fail
        refine (no_any ⟨_, _, _, _, K2.out⟩ 61).mono ?_
        rintro e w7 ⟨rfl, ms7, r7, m7⟩
        go_wp2_with fail
        first | go_end0 | (refine bodyPost_ret (results_none rfl _ _ _) rfl ?_)
        rw [HREQ.out]
        exact ⟨rfl, ms7, r7, M2.out.trans m7⟩
      | true =>
      cases x1 with
      | false =>
        rw [Bool.false_and, if_neg (by simp)] at HREQ
        go_wp2_with fail
        refine (no_any ⟨_, _, _, _, K2.out⟩ 61).mono ?_
        rintro e w7 ⟨rfl, ms7, r7, m7⟩
        go_wp2_with fail
        first | go_end0 | (refine bodyPost_ret (results_none rfl _ _ _) rfl ?_)
        rw [HREQ.out]
        exact ⟨rfl, ms7, r7, M2.out.trans m7⟩
      | true =>
      rw [Bool.true_and, if_pos rfl] at HREQ
      have HBL : Hid (∀ x : UInt8, blankB x = (((x.toNat : Int) == 32) || ((x.toNat : Int) == 9))) := fun x => by unfold blankB; rw [u8_eq, u8_eq]; rfl
      have hb := get_bt ⟨V.toArray⟩
      have hsz2 := HSV.out
      go_upto_region 9 with (fail)
      go_wp2
      go_loopg [9] V.length (fun gg s9 wr => ∃ k : Nat, k ≤ V.length ∧ V.length - k ≤ gg ∧ s9 = .int .i64 k ∧ wr = wA ∧ Hid (∀ j b, j < k → V[j]? = some b → blankB b = true))
      case atStart => exact ⟨0, Nat.zero_le _, by omega, rfl, rfl, fun j b hj => by omega⟩
      case round =>
        obtain ⟨k, hkn, hg, rfl, rfl, HK⟩ := hrel
        go_upto_region 10 with (fail)
        go_cut [68] (fun sx wx => sx = .bool ((V[k]?.map blankB).getD false) ∧ wx = wr)
        case first =>
          by_cases hlt : k < V.length
          · have hltz : (k : Int) < (V.length : Int) := by omega
            obtain ⟨x, hx1, hx2, hx3, hx4⟩ := HVV.out k (by rw [hsz2]; exact hlt)
            have hx1 : V[k]? = some x := hx1
            have HD : Hid ((V[k]?.map blankB).getD false = (((x.toNat : Int) == 32) || ((x.toNat : Int) == 9))) := by show _ = _; rw [hx1]; exact HBL.out x
            obtain ⟨n, hn⟩ : ∃ n : Int, bt ⟨V.toArray⟩ k = n := ⟨_, rfl⟩
            rw [show (x.toNat : Int) = n from by omega] at HD
            have hb2 : ∀ h : k < (⟨V.toArray⟩ : ByteArray).size, ((((⟨V.toArray⟩ : ByteArray)[k]'h).toNat : Nat) : Int) = n := fun h => by rw [hb, hn]
            clear hx1 hx2 hx3 hx4 hb hlt
            obtain ⟨y1, hy1⟩ : ∃ y, (n == 32) = y := ⟨_, rfl⟩
            obtain ⟨y2, hy2⟩ : ∃ y, (n == 9) = y := ⟨_, rfl⟩
            rw [hy1, hy2] at HD
            cases y1
            · go_wp2_with fail
              go_meet
              case rel => exact ⟨by rw [HD.out, Bool.false_or], rfl⟩
            · go_wp2_with fail
              go_meet
              case rel => exact ⟨by rw [HD.out]; rfl, rfl⟩
          · have hltz : (V.length : Int) ≤ (k : Int) := by omega
            have HD : Hid ((V[k]?.map blankB).getD false = false) := by show _ = _; rw [List.getElem?_eq_none (by omega)]; rfl
            clear hlt
            go_wp2_with fail
            go_meet
            case rel => exact ⟨by rw [HD.out], rfl⟩
        case rest =>
        obtain ⟨rfl, rfl⟩ := hcut
        obtain ⟨wA, rfl⟩ : ∃ wx : World, wx = wc := ⟨_, rfl⟩
        cases hcb : (V[k]?.map blankB).getD false
        case true =>
          have hlt : k < V.length := by
            by_cases h : k < V.length
            · exact h
            · rw [List.getElem?_eq_none (by omega)] at hcb; cases hcb
          have HK2 : Hid (∀ j b, j < k + 1 → V[j]? = some b → blankB b = true) := fun j b hj hjb => by
            by_cases e : j = k
            · subst e; rw [hjb] at hcb; exact hcb
            · exact HK.out j b (by omega) hjb
          clear hcb
          go_wp2
          go_roundg (V.length - (k + 1))
          case measure => omega
          case rel => exact ⟨k + 1, by omega, by omega, by go_num, rfl, HK2⟩
        case false =>
        have H3 : Hid (∀ b, V[k]? = some b → blankB b = false) := fun b hjb => by rw [hjb] at hcb; exact hcb
        clear hcb hg
        go_wp2
        go_loopg [10] V.length (fun gg s10 wr => ∃ m : Nat, k ≤ m ∧ m ≤ V.length ∧ m ≤ gg ∧ s10 = .int .i64 m ∧ wr = wA ∧ Hid (∀ j b, m ≤ j → V[j]? = some b → blankB b = true))
        case atStart => exact ⟨V.length, hkn, Nat.le_refl _, by omega, rfl, rfl, fun j b hj hjb => by have := (List.getElem?_eq_some_iff.1 hjb).1; omega⟩
        case round =>
          obtain ⟨m, hkm, hmn, hg, rfl, rfl, H2⟩ := hrel
          go_upto_region 12 with (fail)
          go_cut [87] (fun sx wx => sx = .bool (decide (k < m) && (V[m - 1]?.map blankB).getD false) ∧ wx = wr)
          case first =>
            by_cases hlt : k < m
            · have hltz : (k : Int) < (m : Int) := by omega
              obtain ⟨p, hp⟩ : ∃ p, m = p + 1 := ⟨m - 1, by omega⟩
              subst hp
              obtain ⟨x, hx1, hx2, hx3, hx4⟩ := HVV.out p (by rw [hsz2]; omega)
              have hx1 : V[p]? = some x := hx1
              have HD : Hid ((decide (k < p + 1) && (V[p + 1 - 1]?.map blankB).getD false) = (((x.toNat : Int) == 32) || ((x.toNat : Int) == 9))) := by show _ = _; rw [decide_eq_true hlt, Bool.true_and, show p + 1 - 1 = p from rfl, hx1]; exact HBL.out x
              obtain ⟨n, hn⟩ : ∃ n : Int, bt ⟨V.toArray⟩ p = n := ⟨_, rfl⟩
              rw [show (x.toNat : Int) = n from by omega] at HD
              have hb2 : ∀ h : p < (⟨V.toArray⟩ : ByteArray).size, ((((⟨V.toArray⟩ : ByteArray)[p]'h).toNat : Nat) : Int) = n := fun h => by rw [hb, hn]
              have hpl : (p : Int) < (V.length : Int) := by omega
              clear hx1 hx2 hx3 hx4 hb hlt
              obtain ⟨y1, hy1⟩ : ∃ y, (n == 32) = y := ⟨_, rfl⟩
              obtain ⟨y2, hy2⟩ : ∃ y, (n == 9) = y := ⟨_, rfl⟩
              rw [hy1, hy2] at HD
              cases y1
              · go_wp2_with fail
                go_meet
                case rel => exact ⟨by rw [HD.out, Bool.false_or], rfl⟩
              · go_wp2_with fail
                go_meet
                case rel => exact ⟨by rw [HD.out]; rfl, rfl⟩
            · have hltz : (m : Int) ≤ (k : Int) := by omega
              have HD : Hid ((decide (k < m) && (V[m - 1]?.map blankB).getD false) = false) := by show _ = _; rw [decide_eq_false hlt, Bool.false_and]
              clear hlt
              go_wp2_with fail
              go_meet
              case rel => exact ⟨by rw [HD.out], rfl⟩
          case rest =>
          obtain ⟨rfl, rfl⟩ := hcut
          obtain ⟨wA, rfl⟩ : ∃ wx : World, wx = wc := ⟨_, rfl⟩
          cases hcb : (decide (k < m) && (V[m - 1]?.map blankB).getD false)
          case true =>
            rw [Bool.and_eq_true, decide_eq_true_eq] at hcb
            obtain ⟨hlt, hcb⟩ := hcb
            have H22 : Hid (∀ j b, m - 1 ≤ j → V[j]? = some b → blankB b = true) := fun j b hj hjb => by
              by_cases e : j = m - 1
              · subst e; rw [hjb] at hcb; exact hcb
              · exact H2.out j b (by omega) hjb
            clear hcb
            go_wp2
            go_roundg (m - 1)
            case measure => omega
            case rel => exact ⟨m - 1, by omega, by omega, by omega, by go_num, rfl, H22⟩
          case false =>
            have HTR : Hid (trimL V = (V.drop k).take (m - k)) := trimL_cut V k m hkm hmn HK.out H2.out H3.out fun hlt b hjb => by
              rw [decide_eq_true hlt, Bool.true_and, hjb] at hcb
              exact hcb
            have hex : (⟨V.toArray⟩ : ByteArray).extract k m = ⟨(trimL V).toArray⟩ := by
              have h1 := Lib.extract_data (⟨V.toArray⟩ : ByteArray) k m
              have h2 : (⟨V.toArray⟩ : ByteArray).data.toList = V := rfl
              rw [h2, ← HTR.out] at h1
              exact ByteArray.ext (Array.ext' (by simpa using h1))
            have hz1 : (k : Int) ≤ (m : Int) := by omega
            have hz2 : (m : Int) ≤ (V.length : Int) := by omega
            generalize trimL V = TR at *
            clear hcb HTR HK H2 H3 HBL HVV
            go_upto_region 14 with (fail)
            refine wp_region_held_drew (S := (fun _ => True)) (by kernel_rfl) trivial (fun hS0 => ?_)
            have Kw5 := Lib.hid (K2.out.later (Below.drew (Below.refl _ _)))
            have Mw5 := Lib.hid (M2.out.later (Below.drew (Below.refl _ _)))
            generalize wA.drew = w5 at Kw5 Mw5 ⊢
            refine wpAnyH_take (i := 0) (oi := { dst := some 90, op := _, type := _, pos := _, after := _, guard := _ }) (v := ?_) rfl (by kernel_rfl) (by kernel_rfl) (by kernel_rfl) (fun _ _ _ h => h) (Or.inl ⟨by kernel_rfl, ?_⟩) (by assumption) ?_
            rotate_left
            · (intro w hSw; (try dsimp only at hSw); go_simp); all_goals (with_reducible rfl)
            try simp only [Act.put, List.setIfInBounds_toArray, List.set_cons_zero, List.set_cons_succ]
            refine wpAnyH_take (i := 1) (oi := { dst := some 91, op := _, type := _, pos := _, after := _, guard := _ }) (v := ?_) rfl (by kernel_rfl) (by kernel_rfl) (by kernel_rfl) (fun _ _ _ h => h) (Or.inl ⟨by kernel_rfl, ?_⟩) (by assumption) ?_
            rotate_left
            · (intro w hSw; (try dsimp only at hSw); go_simp); all_goals (with_reducible rfl)
            try simp only [Act.put, List.setIfInBounds_toArray, List.set_cons_zero, List.set_cons_succ]
            refine wpAnyH_take (i := 2) (oi := { dst := some 92, op := _, type := _, pos := _, after := _, guard := _ }) (v := ?_) rfl (by kernel_rfl) (by kernel_rfl) (by kernel_rfl) (fun _ _ _ h => h) (Or.inl ⟨by kernel_rfl, ?_⟩) (by assumption) ?_
            rotate_left
            · (intro w hSw; (try dsimp only at hSw); go_simp); all_goals (with_reducible rfl)
            try simp only [Act.put, List.setIfInBounds_toArray, List.set_cons_zero, List.set_cons_succ]
            refine wpAnyH_take (i := 3) (oi := { dst := some 93, op := _, type := _, pos := _, after := _, guard := _ }) (v := ?_) rfl (by kernel_rfl) (by kernel_rfl) (by kernel_rfl) (fun _ _ _ h => h) (Or.inl ⟨by kernel_rfl, ?_⟩) (by assumption) ?_
            rotate_left
            · (intro w hSw; (try dsimp only at hSw); go_simp); all_goals (with_reducible rfl)
            try simp only [Act.put, List.setIfInBounds_toArray, List.set_cons_zero, List.set_cons_succ]
            refine wpAnyH_take (i := 4) (oi := { dst := some 94, op := _, type := _, pos := _, after := _, guard := _ }) (v := ?_) rfl (by kernel_rfl) (by kernel_rfl) (by kernel_rfl) (fun _ _ _ h => h) (Or.inl ⟨by kernel_rfl, ?_⟩) (by assumption) ?_
            rotate_left
            · (intro w hSw; (try dsimp only at hSw); go_simp); all_goals (with_reducible rfl)
            try simp only [Act.put, List.setIfInBounds_toArray, List.set_cons_zero, List.set_cons_succ]
            refine wpAnyH_take (i := 6) (oi := { dst := some 96, op := _, type := _, pos := _, after := _, guard := _ }) (v := ?_) rfl (by kernel_rfl) (by kernel_rfl) (by kernel_rfl) (fun _ _ _ h => h) (Or.inl ⟨by kernel_rfl, ?_⟩) (by assumption) ?_
            rotate_left
            · (intro w hSw; (try dsimp only at hSw); go_simp); all_goals (with_reducible rfl)
            try simp only [Act.put, List.setIfInBounds_toArray, List.set_cons_zero, List.set_cons_succ]
            refine wpAnyH_take (i := 8) (oi := { dst := some 98, op := _, type := _, pos := _, after := _, guard := _ }) (v := ?_) rfl (by kernel_rfl) (by kernel_rfl) (by kernel_rfl) (fun _ _ _ h => h) (Or.inl ⟨by kernel_rfl, ?_⟩) (by assumption) ?_
            rotate_left
            · (intro w hSw; (try dsimp only at hSw); go_simp); all_goals (with_reducible rfl)
            try simp only [Act.put, List.setIfInBounds_toArray, List.set_cons_zero, List.set_cons_succ]
            refine wpAnyH_take (i := 9) (oi := { dst := some 99, op := _, type := _, pos := _, after := _, guard := _ }) (v := ?_) rfl (by kernel_rfl) (by kernel_rfl) (by kernel_rfl) (fun _ _ _ h => h) (Or.inl ⟨by kernel_rfl, ?_⟩) (by assumption) ?_
            rotate_left
            · (intro w hSw; (try dsimp only at hSw); go_simp); all_goals (with_reducible rfl)
            try simp only [Act.put, List.setIfInBounds_toArray, List.set_cons_zero, List.set_cons_succ]
            refine wpAnyH_take (i := 10) (oi := { dst := some 100, op := _, type := _, pos := _, after := _, guard := _ }) (v := ?_) rfl (by kernel_rfl) (by kernel_rfl) (by kernel_rfl) (fun _ _ _ h => h) (Or.inl ⟨by kernel_rfl, ?_⟩) (by assumption) ?_
            rotate_left
            · (intro w hSw; (try dsimp only at hSw); go_simp); all_goals (with_reducible rfl)
            try simp only [Act.put, List.setIfInBounds_toArray, List.set_cons_zero, List.set_cons_succ]
            refine wpAnyH_take (i := 11) (oi := { dst := some 101, op := _, type := _, pos := _, after := _, guard := _ }) (v := ?_) rfl (by kernel_rfl) (by kernel_rfl) (by kernel_rfl) (fun _ _ _ h => h) (Or.inl ⟨by kernel_rfl, ?_⟩) (by assumption) ?_
            rotate_left
            · (intro w hSw; (try dsimp only at hSw); go_simp); all_goals (with_reducible rfl)
            try simp only [Act.put, List.setIfInBounds_toArray, List.set_cons_zero, List.set_cons_succ]
            refine wpAnyH_ready (rs := [5, 7]) (by kernel_rfl) (by simp) ?_
            refine (AllReadyH.cons (o := { dst := some 95, op := _, type := _, pos := _, after := _, guard := _ }) rfl (fun K hK => ?_) (AllReadyH.cons (o := { dst := some 97, op := _, type := _, pos := _, after := _, guard := _ }) rfl (fun K hK => ?_) AllReadyH.nil))
            · rw [if_pos (by kernel_rfl)]
              have c11 : w5.cell? ⟨rd, 10, none⟩ = some (Value.slice af s.fields.length cf) := cell_of_heap Kw5.out.box
              go_wp2_with fail
              clear c11
              refine hK.out _ _ trivial (fun _ => ?_)
              clear hK K
              try simp only [Act.put, List.setIfInBounds_toArray, List.set_cons_zero, List.set_cons_succ]
              refine wpAnyH_ready (rs := [7]) (by kernel_rfl) (by simp) ?_
              refine (AllReadyH.cons (o := { dst := some 97, op := _, type := _, pos := _, after := _, guard := _ }) rfl (fun K hK => ?_) AllReadyH.nil)
              rw [if_pos (by kernel_rfl)]
              refine wp_call_go Tryz.func47 (by kernel_rfl) (by kernel_rfl) (by rfl) (HSM.out _) (by rfl) ?_
              rintro e z1 ⟨rfl, hb⟩
              refine ⟨_, rfl, ?_⟩
              have Kz1 := Lib.hid (Kw5.out.later hb)
              have Mz1 := Lib.hid (Mw5.out.later hb)
              clear hb Kw5 Mw5
              refine hK.out _ _ trivial (fun _ => ?_)
              clear hK K
              try simp only [Act.put, List.setIfInBounds_toArray, List.set_cons_zero, List.set_cons_succ]
              refine wpAnyH_take (i := 12) (oi := { dst := some 102, op := _, type := _, pos := _, after := _, guard := _ }) (v := ?_) rfl (by kernel_rfl) (by kernel_rfl) (by kernel_rfl) (fun _ _ _ h => h) (Or.inl ⟨by kernel_rfl, ?_⟩) (by assumption) ?_
              rotate_left
              · (intro w hSw; (try dsimp only at hSw); go_simp); all_goals (with_reducible rfl)
              try simp only [Act.put, List.setIfInBounds_toArray, List.set_cons_zero, List.set_cons_succ]
              refine wpAnyH_ready (rs := [13]) (by kernel_rfl) (by simp) ?_
              refine (AllReadyH.cons (o := { dst := some 103, op := _, type := _, pos := _, after := _, guard := _ }) rfl (fun K hK => ?_) AllReadyH.nil)
              rw [if_pos (by kernel_rfl)]
              go_wp2_with fail
              have Kz2 := Lib.hid (Kz1.out.later (below_alloc (Below.refl _ _) (Nat.le_refl _) (.cells #[.string ⟨(smallL nm).toArray⟩, .string ⟨TR.toArray⟩] 58)))
              have Mz2 := Lib.hid (Mz1.out.later (below_alloc (Below.refl _ _) (Nat.le_refl _) (.cells #[.string ⟨(smallL nm).toArray⟩, .string ⟨TR.toArray⟩] 58)))
              have Lz2 : Hid ((z1.alloc (.cells #[.string ⟨(smallL nm).toArray⟩, .string ⟨TR.toArray⟩] 58)).heap[z1.heap.size]? = some (.cells #[.string ⟨(smallL nm).toArray⟩, .string ⟨TR.toArray⟩] 58 (0, 0))) := heap_alloc_new z1 _
              refine hK.out _ (z1.alloc (.cells #[.string ⟨(smallL nm).toArray⟩, .string ⟨TR.toArray⟩] 58)) trivial (fun _ => ?_)
              generalize z1.alloc (.cells #[.string ⟨(smallL nm).toArray⟩, .string ⟨TR.toArray⟩] 58) = z2 at Kz2 Mz2 Lz2 ⊢
              generalize z1.heap.size = gl at Lz2 ⊢
              clear Kz1 Mz1
              clear hK K
              try simp only [Act.put, List.setIfInBounds_toArray, List.set_cons_zero, List.set_cons_succ]
              refine wpAnyH_ready (rs := [14]) (by kernel_rfl) (by simp) ?_
              refine (AllReadyH.cons (o := { dst := some 104, op := _, type := _, pos := _, after := _, guard := _ }) rfl (fun K hK => ?_) AllReadyH.nil)
              rw [if_pos (by kernel_rfl)]
              refine wp_append_lies _ _ _ _ (by rfl) 0 58 j0 _ 2 32 Tryz.underlying29 ji jz0 jz1 jz2 rfl (by decide) (Value.slice af s.fields.length cf) s.fields.length (pairCells s.fields) (by rfl) Kz2.out.flds ⟨gl, 0, none⟩ 1 1 [.string ⟨(smallL nm).toArray⟩, .string ⟨TR.toArray⟩] (by rfl) (by rfl) (fun j u hj => by rw [Addr.add_lit, cell_of_heap Lz2.out]; simpa using hj) (by simp [Value.oneCell']) (by decide) (by simp only [maxLen]; omega) (by omega) (Nat.zero_le _) _ rfl ?_
              intro g cap z3 hown hgr hat hlt2
              have hbx := Kz2.out.past Kz2.out.oF hgr
              have hP := Kz2.out.pushField (s' := { s with fields := s.fields ++ [(smallL nm, TR)] }) hown hgr hat hlt2 rfl ⟨by simp, pairCells_snoc _ _ _⟩ rfl rfl
              have HP := Lib.hid hP.1
              have HM := Lib.hid (Mz2.out.trans hP.2)
              have HX := Lib.hid hbx
              clear hP hown hgr hat hbx Kz2 Mz2
              refine hK.out _ z3 trivial (fun _ => ?_)
              clear hK K
              try simp only [Act.put, List.setIfInBounds_toArray, List.set_cons_zero, List.set_cons_succ]
              refine wpAnyH_take (i := 15) (oi := { dst := some 105, op := _, type := _, pos := _, after := _, guard := _ }) (v := ?_) rfl (by kernel_rfl) (by kernel_rfl) (by kernel_rfl) (fun _ _ _ h => h) (Or.inl ⟨by kernel_rfl, ?_⟩) (by assumption) ?_
              rotate_left
              · (intro w hSw; (try dsimp only at hSw); go_simp); all_goals (with_reducible rfl)
              try simp only [Act.put, List.setIfInBounds_toArray, List.set_cons_zero, List.set_cons_succ]
              refine wpAnyH_take (i := 16) (oi := { dst := some 106, op := _, type := _, pos := _, after := _, guard := _ }) (v := ?_) rfl (by kernel_rfl) (by kernel_rfl) (by kernel_rfl) (fun _ _ _ h => h) (Or.inl ⟨by kernel_rfl, ?_⟩) (by assumption) ?_
              rotate_left
              · (intro w hSw; (try dsimp only at hSw); go_simp); all_goals (with_reducible rfl)
              try simp only [Act.put, List.setIfInBounds_toArray, List.set_cons_zero, List.set_cons_succ]
              refine wpAnyH_take (i := 17) (oi := { dst := some 107, op := _, type := _, pos := _, after := _, guard := _ }) (v := ?_) rfl (by kernel_rfl) (by kernel_rfl) (by kernel_rfl) (fun _ _ _ h => h) (Or.inl ⟨by kernel_rfl, ?_⟩) (by assumption) ?_
              rotate_left
              · (intro w hSw; (try dsimp only at hSw); go_simp); all_goals (with_reducible rfl)
              try simp only [Act.put, List.setIfInBounds_toArray, List.set_cons_zero, List.set_cons_succ]
              refine wpAnyH_ready (rs := [18]) (by kernel_rfl) (by simp) ?_
              refine (AllReadyH.cons (o := { dst := none, op := _, type := _, pos := _, after := _, guard := _ }) rfl (fun K hK => ?_) AllReadyH.nil)
              rw [if_pos (by kernel_rfl)]
              have q33 : z3.cell? ⟨rd, 10, none⟩ = some (Value.slice af s.fields.length cf) := cell_of_heap HX.out
              have f33 : z3.frozen? ⟨rd, 10, none⟩ = false := free_of_heap HX.out
              go_wp2_with fail
              refine hK.out _ _ trivial (fun _ => ?_)
              clear hK K
              try simp only [Act.put]
              refine wpAnyH_done (by kernel_rfl) ?_ _
              go_wp2_with fail
              first | go_end0 | (refine bodyPost_ret (results_none rfl _ _ _) rfl ?_)
              rw [HREQ.out]
              exact ⟨rfl, _, ⟨_, _, _, _, HP.out⟩, HM.out⟩
            · rw [if_pos (by kernel_rfl)]
              refine wp_call_go Tryz.func47 (by kernel_rfl) (by kernel_rfl) (by rfl) (HSM.out _) (by rfl) ?_
              rintro e z5 ⟨rfl, hb⟩
              refine ⟨_, rfl, ?_⟩
              have Kz5 := Lib.hid (Kw5.out.later hb)
              have Mz5 := Lib.hid (Mw5.out.later hb)
              clear hb Kw5 Mw5
              refine hK.out _ _ trivial (fun _ => ?_)
              clear hK K
              try simp only [Act.put, List.setIfInBounds_toArray, List.set_cons_zero, List.set_cons_succ]
              refine wpAnyH_take (i := 12) (oi := { dst := some 102, op := _, type := _, pos := _, after := _, guard := _ }) (v := ?_) rfl (by kernel_rfl) (by kernel_rfl) (by kernel_rfl) (fun _ _ _ h => h) (Or.inl ⟨by kernel_rfl, ?_⟩) (by assumption) ?_
              rotate_left
              · (intro w hSw; (try dsimp only at hSw); go_simp); all_goals (with_reducible rfl)
              try simp only [Act.put, List.setIfInBounds_toArray, List.set_cons_zero, List.set_cons_succ]
              refine wpAnyH_ready (rs := [5, 13]) (by kernel_rfl) (by simp) ?_
              refine (AllReadyH.cons (o := { dst := some 95, op := _, type := _, pos := _, after := _, guard := _ }) rfl (fun K hK => ?_) (AllReadyH.cons (o := { dst := some 103, op := _, type := _, pos := _, after := _, guard := _ }) rfl (fun K hK => ?_) AllReadyH.nil))
              · rw [if_pos (by kernel_rfl)]
                have c11 : z5.cell? ⟨rd, 10, none⟩ = some (Value.slice af s.fields.length cf) := cell_of_heap Kz5.out.box
                go_wp2_with fail
                clear c11
                refine hK.out _ _ trivial (fun _ => ?_)
                clear hK K
                try simp only [Act.put, List.setIfInBounds_toArray, List.set_cons_zero, List.set_cons_succ]
                refine wpAnyH_ready (rs := [13]) (by kernel_rfl) (by simp) ?_
                refine (AllReadyH.cons (o := { dst := some 103, op := _, type := _, pos := _, after := _, guard := _ }) rfl (fun K hK => ?_) AllReadyH.nil)
                rw [if_pos (by kernel_rfl)]
                go_wp2_with fail
                have Kz6 := Lib.hid (Kz5.out.later (below_alloc (Below.refl _ _) (Nat.le_refl _) (.cells #[.string ⟨(smallL nm).toArray⟩, .string ⟨TR.toArray⟩] 58)))
                have Mz6 := Lib.hid (Mz5.out.later (below_alloc (Below.refl _ _) (Nat.le_refl _) (.cells #[.string ⟨(smallL nm).toArray⟩, .string ⟨TR.toArray⟩] 58)))
                have Lz6 : Hid ((z5.alloc (.cells #[.string ⟨(smallL nm).toArray⟩, .string ⟨TR.toArray⟩] 58)).heap[z5.heap.size]? = some (.cells #[.string ⟨(smallL nm).toArray⟩, .string ⟨TR.toArray⟩] 58 (0, 0))) := heap_alloc_new z5 _
                refine hK.out _ (z5.alloc (.cells #[.string ⟨(smallL nm).toArray⟩, .string ⟨TR.toArray⟩] 58)) trivial (fun _ => ?_)
                generalize z5.alloc (.cells #[.string ⟨(smallL nm).toArray⟩, .string ⟨TR.toArray⟩] 58) = z6 at Kz6 Mz6 Lz6 ⊢
                generalize z5.heap.size = gl at Lz6 ⊢
                clear Kz5 Mz5
                clear hK K
                try simp only [Act.put, List.setIfInBounds_toArray, List.set_cons_zero, List.set_cons_succ]
                refine wpAnyH_ready (rs := [14]) (by kernel_rfl) (by simp) ?_
                refine (AllReadyH.cons (o := { dst := some 104, op := _, type := _, pos := _, after := _, guard := _ }) rfl (fun K hK => ?_) AllReadyH.nil)
                rw [if_pos (by kernel_rfl)]
                refine wp_append_lies _ _ _ _ (by rfl) 0 58 j0 _ 2 32 Tryz.underlying29 ji jz0 jz1 jz2 rfl (by decide) (Value.slice af s.fields.length cf) s.fields.length (pairCells s.fields) (by rfl) Kz6.out.flds ⟨gl, 0, none⟩ 1 1 [.string ⟨(smallL nm).toArray⟩, .string ⟨TR.toArray⟩] (by rfl) (by rfl) (fun j u hj => by rw [Addr.add_lit, cell_of_heap Lz6.out]; simpa using hj) (by simp [Value.oneCell']) (by decide) (by simp only [maxLen]; omega) (by omega) (Nat.zero_le _) _ rfl ?_
                intro g cap z7 hown hgr hat hlt2
                have hbx := Kz6.out.past Kz6.out.oF hgr
                have hP := Kz6.out.pushField (s' := { s with fields := s.fields ++ [(smallL nm, TR)] }) hown hgr hat hlt2 rfl ⟨by simp, pairCells_snoc _ _ _⟩ rfl rfl
                have HP := Lib.hid hP.1
                have HM := Lib.hid (Mz6.out.trans hP.2)
                have HX := Lib.hid hbx
                clear hP hown hgr hat hbx Kz6 Mz6
                refine hK.out _ z7 trivial (fun _ => ?_)
                clear hK K
                try simp only [Act.put, List.setIfInBounds_toArray, List.set_cons_zero, List.set_cons_succ]
                refine wpAnyH_take (i := 15) (oi := { dst := some 105, op := _, type := _, pos := _, after := _, guard := _ }) (v := ?_) rfl (by kernel_rfl) (by kernel_rfl) (by kernel_rfl) (fun _ _ _ h => h) (Or.inl ⟨by kernel_rfl, ?_⟩) (by assumption) ?_
                rotate_left
                · (intro w hSw; (try dsimp only at hSw); go_simp); all_goals (with_reducible rfl)
                try simp only [Act.put, List.setIfInBounds_toArray, List.set_cons_zero, List.set_cons_succ]
                refine wpAnyH_take (i := 16) (oi := { dst := some 106, op := _, type := _, pos := _, after := _, guard := _ }) (v := ?_) rfl (by kernel_rfl) (by kernel_rfl) (by kernel_rfl) (fun _ _ _ h => h) (Or.inl ⟨by kernel_rfl, ?_⟩) (by assumption) ?_
                rotate_left
                · (intro w hSw; (try dsimp only at hSw); go_simp); all_goals (with_reducible rfl)
                try simp only [Act.put, List.setIfInBounds_toArray, List.set_cons_zero, List.set_cons_succ]
                refine wpAnyH_take (i := 17) (oi := { dst := some 107, op := _, type := _, pos := _, after := _, guard := _ }) (v := ?_) rfl (by kernel_rfl) (by kernel_rfl) (by kernel_rfl) (fun _ _ _ h => h) (Or.inl ⟨by kernel_rfl, ?_⟩) (by assumption) ?_
                rotate_left
                · (intro w hSw; (try dsimp only at hSw); go_simp); all_goals (with_reducible rfl)
                try simp only [Act.put, List.setIfInBounds_toArray, List.set_cons_zero, List.set_cons_succ]
                refine wpAnyH_ready (rs := [18]) (by kernel_rfl) (by simp) ?_
                refine (AllReadyH.cons (o := { dst := none, op := _, type := _, pos := _, after := _, guard := _ }) rfl (fun K hK => ?_) AllReadyH.nil)
                rw [if_pos (by kernel_rfl)]
                have q33 : z7.cell? ⟨rd, 10, none⟩ = some (Value.slice af s.fields.length cf) := cell_of_heap HX.out
                have f33 : z7.frozen? ⟨rd, 10, none⟩ = false := free_of_heap HX.out
                go_wp2_with fail
                refine hK.out _ _ trivial (fun _ => ?_)
                clear hK K
                try simp only [Act.put]
                refine wpAnyH_done (by kernel_rfl) ?_ _
                go_wp2_with fail
                first | go_end0 | (refine bodyPost_ret (results_none rfl _ _ _) rfl ?_)
                rw [HREQ.out]
                exact ⟨rfl, _, ⟨_, _, _, _, HP.out⟩, HM.out⟩
              · rw [if_pos (by kernel_rfl)]
                go_wp2_with fail
                have Kz9 := Lib.hid (Kz5.out.later (below_alloc (Below.refl _ _) (Nat.le_refl _) (.cells #[.string ⟨(smallL nm).toArray⟩, .string ⟨TR.toArray⟩] 58)))
                have Mz9 := Lib.hid (Mz5.out.later (below_alloc (Below.refl _ _) (Nat.le_refl _) (.cells #[.string ⟨(smallL nm).toArray⟩, .string ⟨TR.toArray⟩] 58)))
                have Lz9 : Hid ((z5.alloc (.cells #[.string ⟨(smallL nm).toArray⟩, .string ⟨TR.toArray⟩] 58)).heap[z5.heap.size]? = some (.cells #[.string ⟨(smallL nm).toArray⟩, .string ⟨TR.toArray⟩] 58 (0, 0))) := heap_alloc_new z5 _
                refine hK.out _ (z5.alloc (.cells #[.string ⟨(smallL nm).toArray⟩, .string ⟨TR.toArray⟩] 58)) trivial (fun _ => ?_)
                generalize z5.alloc (.cells #[.string ⟨(smallL nm).toArray⟩, .string ⟨TR.toArray⟩] 58) = z9 at Kz9 Mz9 Lz9 ⊢
                generalize z5.heap.size = gl at Lz9 ⊢
                clear Kz5 Mz5
                clear hK K
                try simp only [Act.put, List.setIfInBounds_toArray, List.set_cons_zero, List.set_cons_succ]
                refine wpAnyH_ready (rs := [5]) (by kernel_rfl) (by simp) ?_
                refine (AllReadyH.cons (o := { dst := some 95, op := _, type := _, pos := _, after := _, guard := _ }) rfl (fun K hK => ?_) AllReadyH.nil)
                rw [if_pos (by kernel_rfl)]
                have c11 : z9.cell? ⟨rd, 10, none⟩ = some (Value.slice af s.fields.length cf) := cell_of_heap Kz9.out.box
                go_wp2_with fail
                clear c11
                refine hK.out _ _ trivial (fun _ => ?_)
                clear hK K
                try simp only [Act.put, List.setIfInBounds_toArray, List.set_cons_zero, List.set_cons_succ]
                refine wpAnyH_ready (rs := [14]) (by kernel_rfl) (by simp) ?_
                refine (AllReadyH.cons (o := { dst := some 104, op := _, type := _, pos := _, after := _, guard := _ }) rfl (fun K hK => ?_) AllReadyH.nil)
                rw [if_pos (by kernel_rfl)]
                refine wp_append_lies _ _ _ _ (by rfl) 0 58 j0 _ 2 32 Tryz.underlying29 ji jz0 jz1 jz2 rfl (by decide) (Value.slice af s.fields.length cf) s.fields.length (pairCells s.fields) (by rfl) Kz9.out.flds ⟨gl, 0, none⟩ 1 1 [.string ⟨(smallL nm).toArray⟩, .string ⟨TR.toArray⟩] (by rfl) (by rfl) (fun j u hj => by rw [Addr.add_lit, cell_of_heap Lz9.out]; simpa using hj) (by simp [Value.oneCell']) (by decide) (by simp only [maxLen]; omega) (by omega) (Nat.zero_le _) _ rfl ?_
                intro g cap z10 hown hgr hat hlt2
                have hbx := Kz9.out.past Kz9.out.oF hgr
                have hP := Kz9.out.pushField (s' := { s with fields := s.fields ++ [(smallL nm, TR)] }) hown hgr hat hlt2 rfl ⟨by simp, pairCells_snoc _ _ _⟩ rfl rfl
                have HP := Lib.hid hP.1
                have HM := Lib.hid (Mz9.out.trans hP.2)
                have HX := Lib.hid hbx
                clear hP hown hgr hat hbx Kz9 Mz9
                refine hK.out _ z10 trivial (fun _ => ?_)
                clear hK K
                try simp only [Act.put, List.setIfInBounds_toArray, List.set_cons_zero, List.set_cons_succ]
                refine wpAnyH_take (i := 15) (oi := { dst := some 105, op := _, type := _, pos := _, after := _, guard := _ }) (v := ?_) rfl (by kernel_rfl) (by kernel_rfl) (by kernel_rfl) (fun _ _ _ h => h) (Or.inl ⟨by kernel_rfl, ?_⟩) (by assumption) ?_
                rotate_left
                · (intro w hSw; (try dsimp only at hSw); go_simp); all_goals (with_reducible rfl)
                try simp only [Act.put, List.setIfInBounds_toArray, List.set_cons_zero, List.set_cons_succ]
                refine wpAnyH_take (i := 16) (oi := { dst := some 106, op := _, type := _, pos := _, after := _, guard := _ }) (v := ?_) rfl (by kernel_rfl) (by kernel_rfl) (by kernel_rfl) (fun _ _ _ h => h) (Or.inl ⟨by kernel_rfl, ?_⟩) (by assumption) ?_
                rotate_left
                · (intro w hSw; (try dsimp only at hSw); go_simp); all_goals (with_reducible rfl)
                try simp only [Act.put, List.setIfInBounds_toArray, List.set_cons_zero, List.set_cons_succ]
                refine wpAnyH_take (i := 17) (oi := { dst := some 107, op := _, type := _, pos := _, after := _, guard := _ }) (v := ?_) rfl (by kernel_rfl) (by kernel_rfl) (by kernel_rfl) (fun _ _ _ h => h) (Or.inl ⟨by kernel_rfl, ?_⟩) (by assumption) ?_
                rotate_left
                · (intro w hSw; (try dsimp only at hSw); go_simp); all_goals (with_reducible rfl)
                try simp only [Act.put, List.setIfInBounds_toArray, List.set_cons_zero, List.set_cons_succ]
                refine wpAnyH_ready (rs := [18]) (by kernel_rfl) (by simp) ?_
                refine (AllReadyH.cons (o := { dst := none, op := _, type := _, pos := _, after := _, guard := _ }) rfl (fun K hK => ?_) AllReadyH.nil)
                rw [if_pos (by kernel_rfl)]
                have q33 : z10.cell? ⟨rd, 10, none⟩ = some (Value.slice af s.fields.length cf) := cell_of_heap HX.out
                have f33 : z10.frozen? ⟨rd, 10, none⟩ = false := free_of_heap HX.out
                go_wp2_with fail
                refine hK.out _ _ trivial (fun _ => ?_)
                clear hK K
                try simp only [Act.put]
                refine wpAnyH_done (by kernel_rfl) ?_ _
                go_wp2_with fail
                first | go_end0 | (refine bodyPost_ret (results_none rfl _ _ _) rfl ?_)
                rw [HREQ.out]
                exact ⟨rfl, _, ⟨_, _, _, _, HP.out⟩, HM.out⟩

end Go.Proofs.YtdilmefeofdkmaaGreatDoor
