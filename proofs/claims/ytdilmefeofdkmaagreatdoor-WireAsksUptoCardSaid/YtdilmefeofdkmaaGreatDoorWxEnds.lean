/-
  WIRE: a head that has ended, by the document.
-/
import Derived.Test.YtdilmefeofdkmaaGreatDoorWxComplete
import Derived.Test.YtdilmefeofdkmaaGreatDoorWxNum
import Derived.Test.YtdilmefeofdkmaaGreatDoorWiEnds
namespace Go.Proofs.YtdilmefeofdkmaaGreatDoor
open Go.RowKit

theorem rEnds_eq (s : QS) {H C L : List (List UInt8)} (hH : valuesL hostL s.fields = H) (hC : valuesL codingL s.fields = C) (hL : valuesL longL s.fields = L) :
    s.ends = if (decide (1 < H.length) || (s.minor == 1 && H.length != 1)) = true then (s.no 64, []) else if (decide (1 < C.length) || (C.length == 1 && (s.minor == 0 || smallL (C.headD []) != chunkedL))) = true then (s.no 69, []) else if (decide (1 < L.length) || (L.length == 1 && (C.length == 1 || decide (longN L < 0)))) = true then (s.no 62, []) else if 8000 < longN L then (s.no 65, []) else if (C.length == 1) = true then ({ s with inn := 2 }, []) else if longN L = 0 then s.complete else ({ s with left := longN L, inn := 1 }, []) := by
  unfold QS.ends
  simp only [hH, hC, hL, Bool.or_eq_true, Bool.and_eq_true, decide_eq_true_eq, beq_iff_eq, bne_iff_ne]
theorem RefAt.later {w w' : World} {rd : Nat} {ms : Nat → Prop} {s : QS} {out : List ReqV} (h : RefAt w rd ms s out) (hb : Below w.heap.size w w') : RefAt w' rd ms s out := by
  obtain ⟨_, _, _, _, hI⟩ := h
  exact ⟨_, _, _, _, hI.later hb⟩

set_option maxHeartbeats 4000000 in
set_option maxRecDepth 100000 in
theorem rEnds_any {w : World} {rd : Nat} {ms : Nat → Prop} {s : QS} {out : List ReqV} (h : RefAt w rd ms s out) (hmi : s.minor = 0 ∨ s.minor = 1) (hfl : s.fields.length ≤ 1000000) (ho : out.length ≤ 1000000000) (hsh : ∀ f ∈ s.fields, f.2.length ≤ 140737488351232) :
    Calls Tryz.prog 81 #[.pointer (some ⟨rd, 0, none⟩)] w fun x w' => x = .returned (.tuple #[]) ∧ RfPost w rd ms s.ends.1 (out ++ s.ends.2) w' := by
  have R0 := Lib.hid h
  have hsv : ∀ name, ∀ x ∈ valuesL name s.fields, x.length ≤ 140737488351232 := fun name x hx => by
    obtain ⟨f, hf1, rfl⟩ := valuesL_mem hx
    exact hsh f hf1
  have HV : Hid (∀ name W, Below w.heap.size w W → Calls Tryz.prog 83 #[.pointer (some ⟨rd, 0, none⟩), .string ⟨name.toArray⟩] W fun e w' => ∃ v, e = .returned v ∧ StrsAt w' W.heap.size (valuesL name s.fields) v ∧ Below W.heap.size W w') := fun name W hW => by
    obtain ⟨vo, vl, vf, vb, hI⟩ := h.later hW
    exact rAll_any rd vf s.fields name W (cell_of_heap hI.box) hI.flds hfl
  have hHs := hsv hostL
  have hCs := hsv codingL
  have hLs := hsv longL
  have V1 := Lib.hid (fun W hW => HV.out hostL W hW)
  have V2 := Lib.hid (fun W hW => HV.out codingL W hW)
  have V3 := Lib.hid (fun W hW => HV.out longL W hW)
  have HMI := Lib.hid hmi
  clear h hsv HV hmi
  go_enter Tryz.func81, Tryz.ntmps81
  go_wp2_with fail
  refine (V1.out _ (Below.refl _ _)).mono ?_
  rintro e w1 ⟨v1, rfl, s1, b1⟩
  obtain ⟨a1, c1, rfl, k1⟩ := strs_form s1
  have B1 := Lib.hid b1
  clear s1 b1
  go_wp2_with fail
  refine (V2.out _ B1.out).mono ?_
  rintro e w2 ⟨v2, rfl, s2, b2⟩
  obtain ⟨a2, c2, rfl, k2⟩ := strs_form s2
  have B2 := Lib.hid (B1.out.trans (b2.mono B1.out.size))
  clear s2
  go_wp2_with fail
  refine (V3.out _ B2.out).mono ?_
  rintro e w3 ⟨v3, rfl, s3, b3⟩
  obtain ⟨a3, c3, rfl, k3⟩ := strs_form s3
  have B3 := Lib.hid (B2.out.trans (b3.mono B2.out.size))
  have K2 : Hid (∀ i x, (valuesL codingL s.fields)[i]? = some x → ∃ b, a2 = some ⟨b, 0, none⟩ ∧ w3.cell? ⟨b, i, none⟩ = some (.string ⟨x.toArray⟩)) := fun i x hx => by
    obtain ⟨b, e, hc⟩ := k2 i x hx
    exact ⟨b, e, cell_later b3 hc⟩
  have K3 := Lib.hid k3
  clear s3 b2 b3 k1 k2 k3 V1 V2 V3 B1 B2
  have HE := Lib.hid (rEnds_eq s rfl rfl rfl)
  generalize valuesL hostL s.fields = H at *
  generalize valuesL codingL s.fields = C at *
  generalize valuesL longL s.fields = L at *
  go_upto_if 14 with (fail)
  go_cut [5] (fun s5 wx => s5 = .int .i64 (longN L) ∧ wx = w3)
  case first =>
    rcases L with _ | ⟨x, _ | ⟨y, r⟩⟩
    · simp only [List.length_nil]
      go_wp2_with fail
      go_meet
      case rel => exact ⟨rfl, rfl⟩
    · obtain ⟨g, rfl, k0⟩ := K3.out 0 x rfl
      have hxl := hLs x (by simp)
      have HNB := Lib.hid (fun W => number_any ⟨x.toArray⟩ W (by simp [ByteArray.size]; omega))
      have hlen1 : ([x] : List (List UInt8)).length = 1 := rfl
      rw [hlen1]
      go_wp2_with fail
      refine (HNB.out _).mono ?_
      rintro e w4 ⟨rfl, rfl⟩
      go_wp2_with fail
      go_meet
      case rel => exact ⟨rfl, rfl⟩
    · have he : ((((x :: y :: r).length : Nat) : Int) == 1) = false := by rw [beq_eq_false_iff_ne]; simp only [List.length_cons]; omega
      generalize (x :: y :: r).length = nl at *
      go_wp2_with fail
      go_meet
      case rel => exact ⟨rfl, rfl⟩
  case rest =>
  obtain ⟨rfl, rfl⟩ := hcut
  obtain ⟨wB, rfl⟩ : ∃ wx : World, wx = wc := ⟨_, rfl⟩
  have KC := K2
  have BB := B3
  have RB := Lib.hid (R0.out.later BB.out)
  clear K2 K3 B3 hHs hLs R0
  obtain ⟨vo, vl, vf, vb, hI⟩ := RB.out
  have q9 : wB.cell? ⟨rd, 9, none⟩ = some (.int .i64 s.minor) := cell_of_heap hI.box
  have IB := Lib.hid hI
  clear hI
  go_upto_region 8 with (fail)
  go_cut [26] (fun sx wx => sx = .bool (decide (1 < H.length) || (s.minor == 1 && H.length != 1)) ∧ wx = wB)
  case first =>
    rcases H with _ | ⟨x, _ | ⟨y, r⟩⟩
    · simp only [List.length_nil]
      obtain ⟨mn, hmn⟩ : ∃ x, (s.minor == 1) = x := ⟨_, rfl⟩
      cases mn
      all_goals
        go_wp2_with fail
        go_meet
        case rel => exact ⟨by rw [hmn]; rfl, rfl⟩
    · have hlen1 : ([x] : List (List UInt8)).length = 1 := rfl
      rw [hlen1]
      obtain ⟨mn, hmn⟩ : ∃ x, (s.minor == 1) = x := ⟨_, rfl⟩
      cases mn
      all_goals
        go_wp2_with fail
        go_meet
        case rel => exact ⟨by rw [hmn]; rfl, rfl⟩
    · have hd : (1 : Int) < (((x :: y :: r).length : Nat) : Int) := by simp only [List.length_cons]; omega
      have hd2 : decide (1 < (x :: y :: r).length) = true := decide_eq_true (by simp only [List.length_cons]; omega)
      generalize (x :: y :: r).length = nn at *
      have HD2 := Lib.hid hd2
      clear hd2
      go_wp2_with fail
      go_meet
      case rel => exact ⟨by rw [HD2.out]; rfl, rfl⟩
  case rest =>
  obtain ⟨rfl, rfl⟩ := hcut
  obtain ⟨wB, rfl⟩ : ∃ wx : World, wx = wc := ⟨_, rfl⟩
  generalize (decide (1 < H.length) || (s.minor == 1 && H.length != 1)) = bh at *
  cases bh with
  | true =>
    rw [if_pos rfl] at HE
    go_wp2_with fail
    refine (no_any RB.out 64).mono ?_
    rintro e w7 ⟨rfl, ms7, r7, m7⟩
    go_wp2_with fail
    first | go_end0 | (refine bodyPost_ret (results_none rfl _ _ _) rfl ?_)
    rw [HE.out, List.append_nil]
    exact ⟨rfl, ms7, r7, (Xv.of_below BB.out).trans m7⟩
  | false =>
    rw [if_neg (by decide)] at HE
    go_upto_region 10 with (fail)
    go_cut [45] (fun sx wx => sx = .bool (decide (1 < C.length) || (C.length == 1 && (s.minor == 0 || smallL (C.headD []) != chunkedL))) ∧ Below wB.heap.size wB wx)
    case first =>
      rcases C with _ | ⟨x, _ | ⟨y, r⟩⟩
      · simp only [List.length_nil]
        go_wp2_with fail
        go_meet
        case rel => exact ⟨rfl, Below.refl _ _⟩
      · obtain ⟨g, rfl, k0⟩ := KC.out 0 x rfl
        have HSM := Lib.hid (fun W => rSmall_any x (hCs x (by simp)) W)
        have hlen1 : ([x] : List (List UInt8)).length = 1 := rfl
        rw [hlen1]
        obtain ⟨mn, hmn⟩ : ∃ y, (s.minor == 0) = y := ⟨_, rfl⟩
        cases mn with
        | true =>
          go_wp2_with fail
          go_meet
          case rel => exact ⟨by rw [hmn]; rfl, Below.refl _ _⟩
        | false =>
          go_wp2_with fail
          refine (HSM.out _).mono ?_
          rintro e w8 ⟨rfl, hb8⟩
          have B8 := Lib.hid hb8
          clear hb8
          have hhd : ([x] : List (List UInt8)).headD [] = x := rfl
          obtain ⟨cv, hcv⟩ : ∃ y, (smallL x == chunkedL) = y := ⟨_, rfl⟩
          have hcv2 : (smallL x == [99, 104, 117, 110, 107, 101, 100]) = cv := hcv
          have HCV : Hid ((smallL x != chunkedL) = !cv) := by show _ = _; rw [bne, hcv]
          cases cv with
          | true =>
            have hsx : smallL x = [99, 104, 117, 110, 107, 101, 100] := beq_iff_eq.1 hcv2
            clear hcv hcv2
            go_wp2_with fail
            go_meet
            case rel => exact ⟨by rw [hhd, HCV.out, hmn]; rfl, B8.out⟩
          | false =>
            have hsx : ¬ smallL x = [99, 104, 117, 110, 107, 101, 100] := by rw [beq_eq_false_iff_ne] at hcv2; exact hcv2
            clear hcv
            go_wp2_with fail
            go_meet
            case rel => exact ⟨by rw [hhd, HCV.out, hmn]; rfl, B8.out⟩
      · have hd : (1 : Int) < (((x :: y :: r).length : Nat) : Int) := by simp only [List.length_cons]; omega
        have hd2 : decide (1 < (x :: y :: r).length) = true := decide_eq_true (by simp only [List.length_cons]; omega)
        generalize (x :: y :: r).length = nn at *
        have HD2 := Lib.hid hd2
        clear hd2
        go_wp2_with fail
        go_meet
        case rel => exact ⟨by rw [HD2.out]; rfl, Below.refl _ _⟩
    case rest =>
    obtain ⟨rfl, hb9⟩ := hcut
    obtain ⟨wC, rfl⟩ : ∃ wx : World, wx = wc := ⟨_, rfl⟩
    have BC := Lib.hid (BB.out.trans (hb9.mono BB.out.size))
    have RC := Lib.hid (RB.out.later hb9)
    have IC := Lib.hid (IB.out.later hb9)
    clear hb9 KC q9
    have hcl2 : (((C.length : Nat) : Int) == 1) = (C.length == 1) := by rw [Bool.eq_iff_iff]; simp only [beq_iff_eq]; omega
    generalize (C.length == 1) = cl at *
    generalize (decide (1 < C.length) || (cl && (s.minor == 0 || smallL (C.headD []) != chunkedL))) = bc at *
    cases bc with
    | true =>
      rw [if_pos rfl] at HE
      go_wp2_with fail
      refine (no_any RC.out 69).mono ?_
      rintro e w7 ⟨rfl, ms7, r7, m7⟩
      go_wp2_with fail
      first | go_end0 | (refine bodyPost_ret (results_none rfl _ _ _) rfl ?_)
      rw [HE.out, List.append_nil]
      exact ⟨rfl, ms7, r7, (Xv.of_below BC.out).trans m7⟩
    | false =>
      rw [if_neg (by decide)] at HE
      go_upto_region 12 with (fail)
      go_cut [71] (fun sx wx => sx = .bool (decide (1 < L.length) || (L.length == 1 && (cl || decide (longN L < 0)))) ∧ wx = wC)
      case first =>
        rcases L with _ | ⟨x, _ | ⟨y, r⟩⟩
        · simp only [List.length_nil]
          go_wp2_with fail
          go_meet
          case rel => exact ⟨rfl, rfl⟩
        · have hlen1 : ([x] : List (List UInt8)).length = 1 := rfl
          rw [hlen1]
          cases cl with
          | true =>
            go_wp2_with fail
            go_meet
            case rel => exact ⟨rfl, rfl⟩
          | false =>
            go_wp2_with fail
            go_meet
            case rel => exact ⟨rfl, rfl⟩
        · have hd : (1 : Int) < (((x :: y :: r).length : Nat) : Int) := by simp only [List.length_cons]; omega
          have hd2 : decide (1 < (x :: y :: r).length) = true := decide_eq_true (by simp only [List.length_cons]; omega)
          have HD2 := Lib.hid hd2
          clear hd2
          generalize hnn : (x :: y :: r).length = nn at *
          clear hnn
          go_wp2_with fail
          go_meet
          case rel => exact ⟨by rw [HD2.out]; rfl, rfl⟩
      case rest =>
      obtain ⟨rfl, rfl⟩ := hcut
      obtain ⟨wC, rfl⟩ : ∃ wx : World, wx = wc := ⟨_, rfl⟩
      have HNN : Hid ((decide (1 < L.length) || (L.length == 1 && (cl || decide (longN L < 0)))) = false → 0 ≤ longN L) := fun hx => by
        rcases L with _ | ⟨x, _ | ⟨y, r⟩⟩
        · exact Int.le_refl _
        · simp at hx
          exact hx.2
        · exact Int.le_refl _
      generalize (decide (1 < L.length) || (L.length == 1 && (cl || decide (longN L < 0)))) = bl at *
      generalize longN L = n at *
      cases bl with
      | true =>
        rw [if_pos rfl] at HE
        go_wp2_with fail
        refine (no_any RC.out 62).mono ?_
        rintro e w7 ⟨rfl, ms7, r7, m7⟩
        go_wp2_with fail
        first | go_end0 | (refine bodyPost_ret (results_none rfl _ _ _) rfl ?_)
        rw [HE.out, List.append_nil]
        exact ⟨rfl, ms7, r7, (Xv.of_below BC.out).trans m7⟩
      | false =>
        rw [if_neg (by decide)] at HE
        have hn0 := HNN.out rfl
        have q0 : wC.cell? ⟨rd, 0, none⟩ = some (.int .i64 s.inn) := cell_of_heap IC.out.box
        have f0 : wC.frozen? ⟨rd, 0, none⟩ = false := free_of_heap IC.out.box
        have q6 : wC.cell? ⟨rd, 6, none⟩ = some (.int .i64 s.left) := cell_of_heap IC.out.box
        have f6 : wC.frozen? ⟨rd, 6, none⟩ = false := free_of_heap IC.out.box
        by_cases h8 : 8000 < n
        · rw [if_pos h8] at HE
          go_wp2_with fail
          refine (no_any RC.out 65).mono ?_
          rintro e w7 ⟨rfl, ms7, r7, m7⟩
          go_wp2_with fail
          first | go_end0 | (refine bodyPost_ret (results_none rfl _ _ _) rfl ?_)
          rw [HE.out, List.append_nil]
          exact ⟨rfl, ms7, r7, (Xv.of_below BC.out).trans m7⟩
        · rw [if_neg h8] at HE
          have h9 : n ≤ 8000 := by omega
          clear h8
          cases cl with
          | true =>
            rw [if_pos rfl] at HE
            go_wp2_with fail
            first | go_end0 | (refine bodyPost_ret (results_none rfl _ _ _) rfl ?_)
            rw [HE.out, List.append_nil]
            exact ⟨rfl, _, ⟨_, _, _, _, IC.out.set 0 (.int .i64 2) { s with inn := 2 } rfl rfl rfl rfl⟩, (Xv.of_below BC.out).trans (IC.out.mvSet 0 _)⟩
          | false =>
            rw [if_neg (by decide)] at HE
            by_cases hz : n = 0
            · rw [if_pos hz] at HE
              have hz' := beq_int_true hz
              have HK := Lib.hid (rComplete_any RC.out HMI.out hfl ho hsh)
              clear hz
              go_wp2_with fail
              refine HK.out.mono ?_
              rintro e w7 ⟨rfl, ms7, r7, m7⟩
              go_wp2_with fail
              first | go_end0 | (refine bodyPost_ret (results_none rfl _ _ _) rfl ?_)
              rw [HE.out]
              exact ⟨rfl, ms7, r7, (Xv.of_below BC.out).trans m7⟩
            · rw [if_neg hz] at HE
              have hz' := beq_int_false hz
              clear hz
              go_wp2_with fail
              first | go_end0 | (refine bodyPost_ret (results_none rfl _ _ _) rfl ?_)
              rw [HE.out, List.append_nil]
              have k1 := IC.out.set 6 (.int .i64 n) { s with left := n } rfl rfl rfl rfl
              exact ⟨rfl, _, ⟨_, _, _, _, k1.set 0 (.int .i64 1) { s with left := n, inn := 1 } rfl rfl rfl rfl⟩, ((Xv.of_below BC.out).trans (IC.out.mvSet 6 _)).trans (k1.mvSet 0 _)⟩

end Go.Proofs.YtdilmefeofdkmaaGreatDoor
