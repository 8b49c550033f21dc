/-
  WIRE: a chunk's line.
-/
import Derived.Test.YtdilmefeofdkmaaGreatDoorSm11
namespace Go.Proofs.YtdilmefeofdkmaaGreatDoor
open Go.RowKit

theorem hxd_hex (c : UInt8) (h : hexB c = true) : hxd c = hexD c ∧ 0 ≤ hexD c ∧ hexD c ≤ 15 := by
  have h0 : ∀ n : Fin 256, hexB (UInt8.ofNat (n : Nat)) = true → hxd (UInt8.ofNat (n : Nat)) = hexD (UInt8.ofNat (n : Nat)) ∧ 0 ≤ hexD (UInt8.ofNat (n : Nat)) ∧ hexD (UInt8.ofNat (n : Nat)) ≤ 15 := by decide +kernel
  have := h0 ⟨c.toNat, c.toNat_lt⟩
  simp only [UInt8.ofNat_toNat] at this
  exact this h
theorem pw16_bd : ∀ (l : List UInt8) (a v : Int), 0 ≤ a → a ≤ 65535 → pw16 a l = some v → 0 ≤ v ∧ v ≤ 65535
  | [], a, v, h0, h1, h => by simp [pw16] at h; omega
  | c :: r, a, v, h0, h1, h => by
    simp only [pw16] at h
    split at h
    · cases h
    · split at h
      · cases h
      · have := hxd_nonneg c
        exact pw16_bd r _ v (by omega) (by omega) h
theorem pw16_hex : ∀ (l : List UInt8) (a : Int) (k : Nat), (∀ c ∈ l, hexB c = true) → 0 ≤ a → a < ((16 ^ k : Nat) : Int) → k + l.length ≤ 4 → pw16 a l = some (l.foldl (fun n b => 16 * n + hexD b) a)
  | [], a, k, _, _, _, _ => rfl
  | c :: r, a, k, h, h0, h1, hk => by
    obtain ⟨e, d0, d1⟩ := hxd_hex c (h c (by simp))
    simp only [List.length_cons] at hk
    have hp : 16 ^ (k + 1) ≤ 16 ^ 4 := Nat.pow_le_pow_right (by decide) (by omega)
    have hq : 16 ^ (k + 1) = 16 ^ k * 16 := Nat.pow_succ _ _
    have h4 : 16 ^ 4 = 65536 := by decide
    simp only [pw16, e]
    rw [if_neg (by omega), if_neg (by omega), pw16_hex r (a * 16 + hexD c) (k + 1) (fun x hx => h x (by simp [hx])) (by omega) (by rw [hq]; omega) (by omega)]
    simp only [List.foldl_cons]
    rw [show a * 16 + hexD c = 16 * a + hexD c from by omega]
theorem pw16_hexL {l : List UInt8} (h : allB l hexB = true) (h4 : l.length ≤ 4) : pw16 0 l = some (hexL l) := by
  unfold allB at h
  simp only [Bool.and_eq_true, List.all_eq_true] at h
  exact pw16_hex l 0 0 h.2 (by omega) (by decide) (by omega)

/-- how ParseUint ends -/
def PubOut (s : List UInt8) (e : Ending) : Prop :=
  ∃ v er, e = .returned (.tuple #[.int .u64 v, er]) ∧ 0 ≤ v ∧ v ≤ 65535 ∧ ((er = .nilIface ∧ pw16 0 s = some v) ∨ ((∃ N, er = .iface 144 (.pointer (some ⟨N, 0, none⟩))) ∧ (pw16 0 s = none ∨ s = [])))

set_option maxHeartbeats 1000000 in
set_option maxRecDepth 100000 in
theorem parseUint16_nil (w : World) : Calls Tryz.prog 147 #[.string ⟨#[]⟩, .int .i64 16, .int .i64 16] w fun e w' => e = .returned (.tuple #[.int .u64 0, .iface 141 (.int .i64 2)]) ∧ w' = w := by
  go_enter Tryz.func147, Tryz.ntmps147
  go_wp2
  go_ret2
  exact ⟨rfl, rfl⟩

set_option maxHeartbeats 2000000 in
set_option maxRecDepth 100000 in
theorem ppu_any (s : List UInt8) (hs : s.length ≤ 140737488351232) (w : World) (hG : Glob w) :
    Calls Tryz.prog 131 #[.string ⟨s.toArray⟩, .int .i64 16, .int .i64 16] w fun e w' => PubOut s e ∧ Below w.heap.size w w' := by
  have hsz : (⟨s.toArray⟩ : ByteArray).size = s.length := by simp [ByteArray.size]
  have HI : Hid (Calls Tryz.prog 147 #[.string ⟨s.toArray⟩, .int .i64 16, .int .i64 16] w fun e w' => ((∃ v, pw16 0 s = some v ∧ 0 ≤ v ∧ v ≤ 65535 ∧ e = .returned (.tuple #[.int .u64 v, .nilIface])) ∨ ((pw16 0 s = none ∨ s = []) ∧ ∃ v k, 0 ≤ v ∧ v ≤ 65535 ∧ (k = 1 ∨ k = 2) ∧ e = .returned (.tuple #[.int .u64 v, .iface 141 (.int .i64 k)]))) ∧ Below w.heap.size w w') := by
    by_cases hne : s = []
    · subst hne
      refine (parseUint16_nil w).mono ?_
      rintro e w' ⟨rfl, rfl⟩
      exact ⟨.inr ⟨.inr rfl, 0, 2, by omega, by omega, .inr rfl, rfl⟩, Below.refl _ _⟩
    · refine (parseUint16 s hne (by omega) w).mono ?_
      rintro e w' ⟨hp, hb⟩
      refine ⟨?_, hb⟩
      cases hv : pw16 0 s with
      | some v =>
        rw [hv] at hp
        obtain ⟨b0, b1⟩ := pw16_bd s 0 v (by omega) (by omega) hv
        exact .inl ⟨v, rfl, b0, b1, hp⟩
      | none =>
        rw [hv] at hp
        rcases hp with hp | hp
        · exact .inr ⟨.inl rfl, 0, 2, by omega, by omega, .inr rfl, hp⟩
        · exact .inr ⟨.inl rfl, 65535, 1, by omega, by omega, .inl rfl, hp⟩
  have HG := Lib.hid hG
  have HE : Hid (∀ W k, Glob W → (k = 1 ∨ k = 2) → Calls Tryz.prog 129 #[.string ⟨#[80, 97, 114, 115, 101, 85, 105, 110, 116]⟩, .string ⟨s.toArray⟩, .int .i64 16, .int .i64 16, .iface 141 (.int .i64 k)] W fun e w' => ∃ N, e = .returned (.iface 144 (.pointer (some ⟨N, 0, none⟩))) ∧ Below W.heap.size W w') := fun W k hW hk => by
    rcases hk with rfl | rfl
    · obtain ⟨te, pe, hv⟩ := hW.eran
      refine (Tryz.strconv_toError_range _ ⟨s.toArray⟩ _ _ _ W (by omega) hv (.inr ⟨te, pe, rfl⟩)).mono ?_
      rintro e w' ⟨N, rfl, _, _, hb⟩
      exact ⟨N, rfl, hb⟩
    · obtain ⟨te, pe, hv⟩ := hW.esyn
      refine (Tryz.strconv_toError_syntax _ ⟨s.toArray⟩ _ _ _ W (by omega) hv (.inr ⟨te, pe, rfl⟩)).mono ?_
      rintro e w' ⟨N, rfl, _, _, hb⟩
      exact ⟨N, rfl, hb⟩
  clear hG hsz
  go_enter Tryz.func131, Tryz.ntmps131
  go_wp2_with fail
  refine HI.out.mono ?_
  rintro e w1 ⟨⟨v, hv, b0, b1, rfl⟩ | ⟨hv, v, k, b0, b1, hk, rfl⟩, hb1⟩
  · have HV := Lib.hid hv
    have HB := Lib.hid hb1
    clear hv hb1
    go_wp2_with fail
    go_ret2
    exact ⟨⟨v, _, rfl, b0, b1, .inl ⟨rfl, HV.out⟩⟩, HB.out⟩
  · have HV := Lib.hid hv
    have HB := Lib.hid hb1
    have HK := Lib.hid hk
    clear hv hb1 hk
    go_wp2_with fail
    refine (HE.out w1 k (HG.out.later HB.out) HK.out).mono ?_
    rintro e w2 ⟨N, rfl, hb2⟩
    have HB2 := Lib.hid hb2
    clear hb2
    go_wp2_with fail
    go_ret2
    exact ⟨⟨v, _, rfl, b0, b1, .inr ⟨⟨N, rfl⟩, HV.out⟩⟩, HB.out.trans (HB2.out.mono HB.out.size)⟩

theorem size_none {s : RS} {b : UInt8} {t : RS} (h : s.chunkLine b = (t, none)) : s.size b = t := by unfold RS.size; rw [h]
set_option maxRecDepth 100000 in
theorem size_some {s : RS} {b : UInt8} {t : RS} {line N M : List UInt8} {o : Bool} (h : s.chunkLine b = (t, some line)) (hc : cutAt 59 line = (N, M, o)) :
    s.size b = if (!allB N hexB || decide (4 < N.length) || (!M.isEmpty && !allB M shownB)) = true then t.fail 63 else if 8000 - (t.body.length : Int) < hexL N then t.fail 65 else if hexL N = 0 then { t with mode := .last } else { t with left := hexL N, mode := .chunk } := by
  unfold RS.size
  rw [h]
  simp only [hc]

set_option maxHeartbeats 4000000 in
set_option maxRecDepth 100000 in
theorem size_any {w : World} {rd : Nat} {ms : Own} {s : RS} {out : List ReqV} (h : RdrAt w rd ms s out) (b : UInt8) (hl : s.line.length ≤ 1000000000) (hbl : s.body.length ≤ 1000000000) :
    Calls Tryz.prog 114 #[.pointer (some ⟨rd, 0, none⟩), .int .u8 b.toNat] w fun x w' => x = .returned (.tuple #[]) ∧ RdPost w rd ms (s.size b) out w' := by
  have HC := Lib.hid (chunkLine_any h b hl)
  have hff : (s.chunkLine b).1.body = s.body := by unfold RS.chunkLine; split; rfl; split <;> rfl
  have hll : ∀ line, (s.chunkLine b).2 = some line → line.length ≤ s.line.length := by
    intro line
    unfold RS.chunkLine
    split
    · intro e; injection e with e; rw [← e]; exact trimCR_len _
    · split <;> (intro e; cases e)
  obtain ⟨r, hr⟩ : ∃ r, s.chunkLine b = r := ⟨_, rfl⟩
  rw [hr] at HC hff hll
  obtain ⟨t, o⟩ := r
  simp only at HC hff hll
  rw [← hff] at hbl
  clear h hff
  go_enter Tryz.func114, Tryz.ntmps114
  go_wp2_with fail
  refine HC.out.mono ?_
  rintro e w1 ⟨rfl, ms1, r1, m1⟩
  have M1 := Lib.hid m1
  cases o with
  | none =>
    simp only [Option.isSome_none, Option.getD_none]
    have R1 := Lib.hid r1
    have HR := Lib.hid (size_none hr)
    clear r1 m1 hr
    go_wp2_with fail
    first | go_end0 | (refine bodyPost_ret (results_none rfl _ _ _) rfl ?_)
    rw [HR.out]
    exact ⟨rfl, ms1, R1.out, M1.out⟩
  | some line =>
    have hln := hll line rfl
    simp only [Option.isSome_some, Option.getD_some]
    have hcl := cutAt_len 59 line
    have HCU : Hid (∀ W, Calls Tryz.prog 95 #[.string ⟨line.toArray⟩, .string ⟨#[59]⟩] W fun e w' => e = .returned (.tuple #[.string ⟨(cutAt 59 line).1.toArray⟩, .string ⟨(cutAt 59 line).2.1.toArray⟩, .bool (cutAt 59 line).2.2]) ∧ Below W.heap.size W w') := fun W => cutL_any line 59 W (by omega)
    obtain ⟨c, hc⟩ : ∃ c, cutAt 59 line = c := ⟨_, rfl⟩
    rw [hc] at HCU hcl
    obtain ⟨N, M, o2⟩ := c
    simp only at HCU hcl
    have HR := Lib.hid (size_some hr hc)
    have HA := Lib.hid (fun W => all_any N (by omega) hexChar_test W)
    have HS := Lib.hid (fun W => all_any M (by omega) shown_test W)
    have HP := Lib.hid (fun W (hG : Glob W) => ppu_any N (by omega) W hG)
    have R1 := Lib.hid r1
    have G1 : Hid (Glob w1) := by obtain ⟨_, _, _, _, hI⟩ := r1; exact hI.glob
    have hN4 : Hid (allB N hexB = true → N.length ≤ 4 → pw16 0 N = some (hexL N) ∧ N ≠ []) := fun x y => ⟨pw16_hexL x y, fun e => by rw [e] at x; cases x⟩
    clear r1 m1 hr hc hln hll
    go_wp2_with fail
    refine (HCU.out _).mono ?_
    rintro e w2 ⟨rfl, hb2⟩
    have G2 := Lib.hid (G1.out.later hb2)
    have B2 := Lib.hid hb2
    clear hb2
    go_wp2_with fail
    refine (HP.out _ G2.out).mono ?_
    rintro e w3 ⟨⟨v, er, rfl, v0, v1, her⟩, hb3⟩
    have B3 := Lib.hid (B2.out.trans (hb3.mono B2.out.size))
    have HER := Lib.hid her
    clear hb3 her
    go_wp2_with fail
    refine (HA.out _).mono ?_
    rintro e w4 ⟨rfl, hb4⟩
    have B4 := Lib.hid (B3.out.trans (hb4.mono B3.out.size))
    clear hb4
    go_upto_region 6 with (fail)
    go_cut [43] (fun sx wx => sx = .bool (!allB N hexB || decide (4 < N.length) || (!M.isEmpty && !allB M shownB)) ∧ Below w1.heap.size w1 wx)
    case first =>
      rcases HER.out with ⟨rfl, hv⟩ | ⟨⟨Nn, rfl⟩, hv⟩
      · generalize allB N hexB = hx at *
        cases hx with
        | false =>
          go_wp2_with fail
          go_meet
          case rel => exact ⟨rfl, B4.out⟩
        | true =>
          by_cases h4 : 4 < N.length
          · have h4' : (4 : Int) < (N.length : Int) := by omega
            have hd4 : decide (4 < N.length) = true := decide_eq_true h4
            go_wp2_with fail
            go_meet
            case rel => exact ⟨by rw [hd4]; rfl, B4.out⟩
          · have h4' : (N.length : Int) ≤ 4 := by omega
            have hd4 : decide (4 < N.length) = false := decide_eq_false h4
            have hd4i : decide ((4 : Int) < (N.length : Int)) = false := decide_eq_false (by omega)
            by_cases hM : M = []
            · subst hM
              go_wp2_with fail
              go_meet
              case rel => exact ⟨by rw [hd4]; first | rfl | (rw [hd4i]; rfl), B4.out⟩
            · have hM1 : (M == []) = false := by rw [beq_eq_false_iff_ne]; exact hM
              have hM2 : M.isEmpty = false := by cases M with | nil => exact absurd rfl hM | cons _ _ => rfl
              go_wp2_with fail
              refine (HS.out _).mono ?_
              rintro e w5 ⟨rfl, hb5⟩
              have B5 := Lib.hid (B4.out.trans (hb5.mono B4.out.size))
              clear hb5
              generalize allB M shownB = sm at *
              cases sm
              all_goals
                go_wp2_with fail
                go_meet
                case rel => exact ⟨by rw [hd4, hM2]; first | rfl | (rw [hd4i]; rfl), B5.out⟩
      · have hbad : (!allB N hexB || decide (4 < N.length)) = true := by
          cases hx : allB N hexB with
          | false => rfl
          | true =>
            by_cases h4 : 4 < N.length
            · rw [decide_eq_true h4]; rfl
            · obtain ⟨k1, k2⟩ := hN4.out hx (by omega)
              rcases hv with hv | hv
              · rw [hv] at k1; cases k1
              · exact absurd hv k2
        go_wp2_with fail
        go_meet
        case rel => exact ⟨by rw [hbad]; rfl, B4.out⟩
    case rest =>
    obtain ⟨rfl, hb6⟩ := hcut
    obtain ⟨w6, rfl⟩ : ∃ wx : World, wx = wc := ⟨_, rfl⟩
    have R6 := Lib.hid (R1.out.later hb6)
    have M6 := Lib.hid (M1.out.later hb6)
    obtain ⟨bad, hbad⟩ : ∃ x, (!allB N hexB || decide (4 < N.length) || (!M.isEmpty && !allB M shownB)) = x := ⟨_, rfl⟩
    rw [hbad] at HR ⊢
    clear hb6 B2 B3 B4 HA HS HP HCU G1 G2
    cases bad with
    | true =>
      rw [if_pos rfl] at HR
      go_wp2_with fail
      refine (fail_any R6.out 63).mono ?_
      rintro e w7 ⟨rfl, ms7, r7, m7⟩
      go_wp2_with fail
      first | go_end0 | (refine bodyPost_ret (results_none rfl _ _ _) rfl ?_)
      rw [HR.out]
      exact ⟨rfl, ms7, r7, M6.out.trans m7⟩
    | false =>
      rw [if_neg (by decide)] at HR
      have hv : v = hexL N := by
        simp only [Bool.or_eq_false_iff] at hbad
        obtain ⟨⟨k1, k2⟩, _⟩ := hbad
        obtain ⟨k3, k4⟩ := hN4.out (by simpa using k1) (by have := of_decide_eq_false k2; omega)
        rcases HER.out with ⟨_, h5⟩ | ⟨_, h5⟩
        · rw [h5] at k3; injection k3
        · rcases h5 with h5 | h5
          · rw [h5] at k3; cases k3
          · exact absurd h5 k4
      rw [← hv] at HR
      obtain ⟨vo, vl, vf, vb, hI⟩ := R6.out
      obtain ⟨a, c, rfl⟩ := row_form hI.body
      have q14 : w6.cell? ⟨rd, 14, none⟩ = some (.slice a t.body.length c) := cell_of_heap hI.box
      have q0 : w6.cell? ⟨rd, 0, none⟩ = some (nextV rd t.mode) := cell_of_heap hI.box
      have f0 : w6.frozen? ⟨rd, 0, none⟩ = false := free_of_heap hI.box
      have q15 : w6.cell? ⟨rd, 15, none⟩ = some (.int .i64 t.left) := cell_of_heap hI.box
      have f15 : w6.frozen? ⟨rd, 15, none⟩ = false := free_of_heap hI.box
      have I6 := Lib.hid hI
      clear hI hbad hv HER hN4
      by_cases h8 : 8000 - (t.body.length : Int) < v
      · rw [if_pos h8] at HR
        go_wp2_with fail
        refine (fail_any R6.out 65).mono ?_
        rintro e w7 ⟨rfl, ms7, r7, m7⟩
        go_wp2_with fail
        first | go_end0 | (refine bodyPost_ret (results_none rfl _ _ _) rfl ?_)
        rw [HR.out]
        exact ⟨rfl, ms7, r7, M6.out.trans m7⟩
      · rw [if_neg h8] at HR
        have h9 : v ≤ 8000 - (t.body.length : Int) := by omega
        by_cases hz : v = 0
        · rw [if_pos hz] at HR
          have hz' := beq_int_true hz
          clear hz h8
          go_wp2_with fail
          first | go_end0 | (refine bodyPost_ret (results_none rfl _ _ _) rfl ?_)
          rw [HR.out]
          exact ⟨rfl, _, ⟨_, _, _, _, I6.out.set 0 (nextV rd .last) { t with mode := .last } rfl rfl rfl rfl⟩, M6.out.trans (I6.out.mvSet 0 _)⟩
        · rw [if_neg hz] at HR
          have hz' := beq_int_false hz
          clear hz h8
          go_wp2_with fail
          first | go_end0 | (refine bodyPost_ret (results_none rfl _ _ _) rfl ?_)
          rw [HR.out]
          have k1 := I6.out.set 15 (.int .i64 v) { t with left := v } rfl rfl rfl rfl
          exact ⟨rfl, _, ⟨_, _, _, _, k1.set 0 (nextV rd .chunk) { t with left := v, mode := .chunk } rfl rfl rfl rfl⟩, (M6.out.trans (I6.out.mvSet 15 _)).trans (k1.mvSet 0 _)⟩

end Go.Proofs.YtdilmefeofdkmaaGreatDoor
