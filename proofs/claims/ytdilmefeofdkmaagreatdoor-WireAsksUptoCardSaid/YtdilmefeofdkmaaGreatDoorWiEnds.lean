/-
  WIRE: a head that has ended.
-/
import Derived.Test.YtdilmefeofdkmaaGreatDoorWiSize
namespace Go.Proofs.YtdilmefeofdkmaaGreatDoor
open Go.RowKit

theorem digs_all : ∀ (l : List UInt8) (acc : Nat), (∀ c ∈ l, digB c = true) → digs acc l = some (l.foldl (fun n b => 10 * n + (b.toNat - 48)) acc)
  | [], acc, _ => rfl
  | c :: r, acc, h => by
    have hc := h c (by simp)
    rw [digB_int] at hc
    simp only [Bool.and_eq_true, decide_eq_true_eq] at hc
    simp only [digs]
    rw [if_pos (by omega), digs_all r _ (fun x hx => h x (by simp [hx]))]
    rfl
theorem foldl_int : ∀ (l : List UInt8) (acc : Nat), (∀ c ∈ l, digB c = true) → l.foldl (fun (n : Int) b => 10 * n + ((b.toNat : Int) - 48)) (acc : Int) = ((l.foldl (fun n b => 10 * n + (b.toNat - 48)) acc : Nat) : Int)
  | [], acc, _ => rfl
  | c :: r, acc, h => by
    have hc := h c (by simp)
    rw [digB_int] at hc
    simp only [Bool.and_eq_true, decide_eq_true_eq] at hc
    simp only [List.foldl_cons]
    rw [← foldl_int r _ (fun x hx => h x (by simp [hx]))]
    congr 1
    omega
theorem foldl_bd : ∀ (l : List UInt8) (acc k : Nat), (∀ c ∈ l, digB c = true) → acc < 10 ^ k → k + l.length ≤ 10 → l.foldl (fun n b => 10 * n + (b.toNat - 48)) acc < 10 ^ 10
  | [], acc, k, _, h1, h2 => Nat.lt_of_lt_of_le h1 (Nat.pow_le_pow_right (by decide) (by simpa using h2))
  | c :: r, acc, k, h, h1, h2 => by
    have hc := h c (by simp)
    rw [digB_int] at hc
    simp only [Bool.and_eq_true, decide_eq_true_eq] at hc
    simp only [List.length_cons] at h2
    have hq : 10 ^ (k + 1) = 10 ^ k * 10 := Nat.pow_succ _ _
    exact foldl_bd r _ (k + 1) (fun x hx => h x (by simp [hx])) (by rw [hq]; show 10 * acc + (c.toNat - 48) < _; omega) (by omega)
theorem atoi_dec {l : List UInt8} (h : allB l digB = true) (h10 : l.length ≤ 10) : Lib.atoiAll l = .ok (decL l) ∧ 0 ≤ decL l ∧ decL l < 10000000000 := by
  unfold allB at h
  simp only [Bool.and_eq_true, List.all_eq_true] at h
  obtain ⟨h1, h2⟩ := h
  have hd := digs_all l 0 h2
  have hi := foldl_int l 0 h2
  have hb := foldl_bd l 0 0 h2 (by decide) (by omega)
  have hp : (10 : Nat) ^ 10 = 10000000000 := by decide
  have he : decL l = ((l.foldl (fun n b => 10 * n + (b.toNat - 48)) 0 : Nat) : Int) := hi
  generalize l.foldl (fun n b => 10 * n + (b.toNat - 48)) 0 = u at *
  refine ⟨?_, by omega, by omega⟩
  cases l with
  | nil => cases h1
  | cons c r =>
    have hpp := parse_digs _ _ _ hd (by omega)
    have hc : 48 ≤ c.toNat ∧ c.toNat ≤ 57 := by
      have := h2 c (by simp)
      rw [digB_int] at this
      simp only [Bool.and_eq_true, decide_eq_true_eq] at this
      omega
    unfold Lib.atoiAll
    simp only
    rw [if_neg (by omega)]
    unfold Lib.parseMag
    rw [if_neg (by simp), hpp]
    simp only
    rw [if_neg (by omega), if_neg (by omega), if_neg (by omega), he]

/-- how Atoi ends -/
def AtoiOut (l : List UInt8) (w : World) (e : Ending) (w' : World) : Prop :=
  ((∃ v, Lib.atoiAll l = .ok v ∧ e = .returned (.tuple #[.int .i64 v, .nilIface])) ∨
    ((∀ v, Lib.atoiAll l ≠ .ok v) ∧ ∃ v N, e = .returned (.tuple #[.int .i64 v, .iface 144 (.pointer (some ⟨N, 0, none⟩))]))) ∧ Below w.heap.size w w'
theorem atoi_any (l : List UInt8) (hl : l.length ≤ 140737488355328) (w : World) (hg : Glob w) : Calls Tryz.prog 113 #[.string ⟨l.toArray⟩] w (AtoiOut l w) := by
  have hs : (⟨l.toArray⟩ : ByteArray).size = l.length := by simp [ByteArray.size]
  rcases hc : Lib.atoiAll l with v | _ | _
  · refine (Tryz.strconv_Atoi_ok ⟨l.toArray⟩ (by omega) v (by simpa using hc) w).mono ?_
    rintro e w' ⟨rfl, rfl | ⟨t, rfl⟩⟩
    · exact ⟨.inl ⟨v, hc, rfl⟩, Below.refl _ _⟩
    · exact ⟨.inl ⟨v, hc, rfl⟩, below_bytesWorld _ _ _⟩
  · obtain ⟨te, pe, hv⟩ := hg.esyn
    refine (Tryz.strconv_Atoi_syntax ⟨l.toArray⟩ (by omega) (by simpa using hc) _ w hv (.inr ⟨te, pe, rfl⟩)).mono ?_
    rintro e w' ⟨N, rfl, _, _, hb⟩
    exact ⟨.inr ⟨(fun v h => by rw [hc] at h; cases h), _, N, rfl⟩, hb⟩
  · obtain ⟨te, pe, hv⟩ := hg.eran
    refine (Tryz.strconv_Atoi_range ⟨l.toArray⟩ (by omega) (by simpa using hc) _ w hv (.inr ⟨te, pe, rfl⟩)).mono ?_
    rintro e w' ⟨N, rfl, _, _, hb⟩
    exact ⟨.inr ⟨(fun v h => by rw [hc] at h; cases h), _, N, rfl⟩, hb⟩

def fitsL (L C : List (List UInt8)) : Bool := match L with
  | [] => true
  | [x] => decide (x.length ≤ 10) && allB x digB && C.isEmpty
  | _ => false
theorem fitsL_one (x : List UInt8) (C : List (List UInt8)) : fitsL [x] C = (decide (x.length ≤ 10) && allB x digB && C.isEmpty) := rfl
def numL16 (L : List (List UInt8)) : Int := match L with
  | [x] => decL x
  | _ => 0

theorem ends_eq (s : RS) {H C L : List (List UInt8)} (hH : valuesL hostL s.fields = H) (hC : valuesL codingL s.fields = C) (hL : valuesL longL s.fields = L) :
    s.ends = if (decide (1 < H.length) || (H.isEmpty && s.minor == 1)) = true then (s.fail 64, []) else if (decide (1 < C.length) || (C.length == 1 && (s.minor == 0 || smallL (C.headD []) != chunkedL))) = true then (s.fail 69, []) else if (!fitsL L C) = true then (s.fail 62, []) else if 8000 < numL16 L then (s.fail 65, []) else if (C.length == 1) = true then ({ s with left := -1, mode := .size }, []) else if numL16 L = 0 then s.complete else ({ s with left := numL16 L, mode := .bytes }, []) := by
  unfold RS.ends
  simp only [hH, hC, hL]
  rcases L with _ | ⟨x, _ | ⟨y, r⟩⟩ <;> rfl

theorem strs_form {w : World} {base : Nat} {l : List (List UInt8)} {v : Value} (h : StrsAt w base l v) : ∃ a c, v = .slice a l.length c ∧ ∀ i x, l[i]? = some x → ∃ b, a = some ⟨b, 0, none⟩ ∧ w.cell? ⟨b, i, none⟩ = some (.string ⟨x.toArray⟩) := by
  obtain ⟨a, c, hv⟩ : ∃ a c, v = .slice a l.length c := by
    rcases h.2 with ⟨h1, h2⟩ | ⟨g, cap, cur, h1, _⟩
    · exact ⟨none, 0, by rw [h1, h2]⟩
    · exact ⟨_, _, h1⟩
  refine ⟨a, c, hv, fun i x hix => ?_⟩
  have hlt := (List.getElem?_eq_some_iff.1 hix).1
  obtain ⟨b, c', hv2, _, _⟩ := h.form (by omega)
  have k1 := h.cells (g := b) (by rw [hv2]; rfl) i (.string ⟨x.toArray⟩) (by simp [strCs, hix])
  rw [Addr.add_lit, Nat.zero_add] at k1
  rw [hv] at hv2
  injection hv2 with e1 _ _
  exact ⟨b, e1, k1⟩

set_option maxHeartbeats 4000000 in
set_option maxRecDepth 100000 in
theorem ends_any {w : World} {rd : Nat} {ms : Own} {s : RS} {out : List ReqV} (h : RdrAt w rd ms s out) (hfl : s.fields.length ≤ 1000000) (ho : out.length ≤ 1000000000) (hsh : ∀ f ∈ s.fields, f.2.length ≤ 140737488351232) :
    Calls Tryz.prog 99 #[.pointer (some ⟨rd, 0, none⟩)] w fun x w' => x = .returned (.tuple #[]) ∧ RdPost w rd ms s.ends.1 (out ++ s.ends.2) w' := by
  have R0 := Lib.hid h
  have hsv : ∀ name, ∀ x ∈ valuesL name s.fields, x.length ≤ 140737488351232 := fun name x hx => by
    unfold valuesL at hx
    obtain ⟨f, hf1, rfl⟩ := List.mem_map.1 hx
    exact hsh f (List.mem_filter.1 hf1).1
  have HV : Hid (∀ name W, Below w.heap.size w W → Calls Tryz.prog 112 #[.pointer (some ⟨rd, 0, none⟩), .string ⟨name.toArray⟩] W fun e w' => ∃ v, e = .returned v ∧ StrsAt w' W.heap.size (valuesL name s.fields) v ∧ Below W.heap.size W w') := fun name W hW => by
    obtain ⟨vo, vl, vf, vb, hI⟩ := h.later hW
    exact values_any rd vf s.fields name W (cell_of_heap hI.box) hI.flds hfl
  have hHs := hsv hostL
  have hCs := hsv codingL
  have hLs := hsv longL
  have V1 := Lib.hid (fun W hW => HV.out hostL W hW)
  have V2 := Lib.hid (fun W hW => HV.out codingL W hW)
  have V3 := Lib.hid (fun W hW => HV.out longL W hW)
  clear h hsv HV
  go_enter Tryz.func99, Tryz.ntmps99
  go_wp2_with fail
  refine (V1.out _ (Below.refl _ _)).mono ?_
  rintro e w1 ⟨v1, rfl, s1, b1⟩
  obtain ⟨a1, c1, rfl, k1⟩ := strs_form s1
  have B1 := Lib.hid b1
  clear s1 b1
  go_wp2_with fail
  refine (V2.out _ B1.out).mono ?_
  rintro e w2 ⟨v2, rfl, s2, b2⟩
  obtain ⟨a2, c2, rfl, k2⟩ := strs_form s2
  have B2 := Lib.hid (B1.out.trans (b2.mono B1.out.size))
  clear s2
  go_wp2_with fail
  refine (V3.out _ B2.out).mono ?_
  rintro e w3 ⟨v3, rfl, s3, b3⟩
  obtain ⟨a3, c3, rfl, k3⟩ := strs_form s3
  have B3 := Lib.hid (B2.out.trans (b3.mono B2.out.size))
  have K2 : Hid (∀ i x, (valuesL codingL s.fields)[i]? = some x → ∃ b, a2 = some ⟨b, 0, none⟩ ∧ w3.cell? ⟨b, i, none⟩ = some (.string ⟨x.toArray⟩)) := fun i x hx => by
    obtain ⟨b, e, hc⟩ := k2 i x hx
    exact ⟨b, e, cell_later b3 hc⟩
  have K3 := Lib.hid k3
  clear s3 b2 b3 k1 k2 k3 V1 V2 V3 B1 B2
  have HE := Lib.hid (ends_eq s rfl rfl rfl)
  generalize valuesL hostL s.fields = H at *
  generalize valuesL codingL s.fields = C at *
  generalize valuesL longL s.fields = L at *
  go_upto_region 2 with (fail)
  go_cut [6] (fun s6 wx => s6 = .bool (decide ((L.length : Int) < 2)) ∧ wx = w3)
  case first =>
    go_wp2_with fail
    go_meet
    case rel => exact ⟨rfl, rfl⟩
  case rest =>
  obtain ⟨rfl, rfl⟩ := hcut
  obtain ⟨wA, rfl⟩ : ∃ wx : World, wx = wc := ⟨_, rfl⟩
  rename_i hk
  refine hk _ _ (wp_seq_k (fun K hKK => ?_))
  clear hk
  go_cut [5, 6] (fun s5 s6 wx => (∃ n : Int, s5 = .int .i64 n ∧ (fitsL L C = true → n = numL16 L)) ∧ s6 = .bool (fitsL L C) ∧ Below wA.heap.size wA wx)
  case first =>
    rcases L with _ | ⟨x, _ | ⟨y, r⟩⟩
    · simp only [List.length_nil]
      go_wp2_with fail
      go_meet
      case rel => exact ⟨⟨0, rfl, fun _ => rfl⟩, rfl, Below.refl _ _⟩
    · obtain ⟨g, rfl, k0⟩ := K3.out 0 x rfl
      have hxl := hLs x (by simp)
      have GA : Hid (Glob wA) := by
        obtain ⟨_, _, _, _, hI⟩ := R0.out
        exact hI.glob.later B3.out
      have HAT := Lib.hid (fun W (hW : Glob W) => atoi_any x (by omega) W hW)
      have HAL := Lib.hid (fun W => all_any x hxl digit_test W)
      have hlen1 : ([x] : List (List UInt8)).length = 1 := rfl
      have HD := Lib.hid (fun h1 h2 => (atoi_dec (l := x) h1 h2).1)
      have K0 := Lib.hid k0
      rw [hlen1]
      by_cases h10 : (x.length : Int) ≤ 10
      · have h10n : x.length ≤ 10 := by omega
        go_wp2_with fail
        refine (HAL.out _).mono ?_
        rintro e w4 ⟨rfl, hb4⟩
        have k0 := cell_later hb4 K0.out
        have B4 := Lib.hid hb4
        obtain ⟨ad, had⟩ : ∃ y, allB x digB = y := ⟨_, rfl⟩
        rw [had]
        have HFT : Hid (fitsL [x] C = (ad && C.isEmpty)) := by show _ = _; rw [fitsL_one, decide_eq_true h10n, had]; rfl
        clear hb4
        cases ad with
        | false =>
          go_wp2_with fail
          refine (HAT.out _ (GA.out.later B4.out)).mono ?_
          rintro e w5 ⟨⟨v, hv, rfl⟩ | ⟨_, v, N, rfl⟩, hb5⟩
          all_goals
            have B5 := Lib.hid (B4.out.trans (hb5.mono B4.out.size))
            clear hb5
            go_wp2_with fail
            go_meet
            case rel => exact ⟨⟨v, rfl, fun hf => by rw [HFT.out] at hf; cases hf⟩, by rw [HFT.out]; rfl, B5.out⟩
        | true =>
          rcases C with _ | ⟨c1, cr⟩
          · simp only [List.length_nil]
            go_wp2_with fail
            refine (HAT.out _ (GA.out.later B4.out)).mono ?_
            rintro e w5 ⟨⟨v, hv, rfl⟩ | ⟨hno, v, N, rfl⟩, hb5⟩
            · have B5 := Lib.hid (B4.out.trans (hb5.mono B4.out.size))
              have HV2 := Lib.hid hv
              clear hb5 hv
              go_wp2_with fail
              go_meet
              case rel => exact ⟨⟨v, rfl, fun _ => by have h5 := HD.out had h10n; rw [HV2.out] at h5; injection h5⟩, by rw [HFT.out]; rfl, B5.out⟩
            · exact absurd (HD.out had h10n) (hno _)
          · have hcl : (((c1 :: cr).length : Int) == 0) = false := by rw [beq_eq_false_iff_ne]; simp only [List.length_cons]; omega
            go_wp2_with fail
            refine (HAT.out _ (GA.out.later B4.out)).mono ?_
            rintro e w5 ⟨⟨v, hv, rfl⟩ | ⟨_, v, N, rfl⟩, hb5⟩
            all_goals
              have B5 := Lib.hid (B4.out.trans (hb5.mono B4.out.size))
              clear hb5
              go_wp2_with fail
              go_meet
              case rel => exact ⟨⟨v, rfl, fun hf => by rw [HFT.out] at hf; cases hf⟩, by rw [HFT.out]; first | rfl | (rw [hcl]; rfl), B5.out⟩
      · have h11 : 10 < (x.length : Int) := by omega
        have HFT : Hid (fitsL [x] C = false) := by show _ = _; rw [fitsL_one, decide_eq_false (by omega)]; rfl
        go_wp2_with fail
        refine (HAT.out _ GA.out).mono ?_
        rintro e w5 ⟨⟨v, hv, rfl⟩ | ⟨_, v, N, rfl⟩, hb5⟩
        all_goals
          have B5 := Lib.hid hb5
          clear hb5
          go_wp2_with fail
          go_meet
          case rel => exact ⟨⟨v, rfl, fun hf => by rw [HFT.out] at hf; cases hf⟩, by rw [HFT.out], B5.out⟩
    · have hl2 : ((x :: y :: r).length : Int) = (r.length : Int) + 2 := by simp only [List.length_cons]; omega
      have hd : decide ((((x :: y :: r).length : Nat) : Int) < 2) = false := decide_eq_false (by omega)
      have he : ((((x :: y :: r).length : Nat) : Int) == 1) = false := by rw [beq_eq_false_iff_ne]; omega
      rw [hd]
      generalize (x :: y :: r).length = nl at *
      go_wp2_with fail
      go_meet
      case rel => exact ⟨⟨0, rfl, fun _ => rfl⟩, rfl, Below.refl _ _⟩
  case rest =>
  obtain ⟨⟨n, rfl, hn⟩, rfl, hb⟩ := hcut
  obtain ⟨wB, rfl⟩ : ∃ wx : World, wx = wc := ⟨_, rfl⟩
  refine hKK _ _ ?_
  clear hKK
  have KC : Hid (∀ i x, C[i]? = some x → ∃ b, a2 = some ⟨b, 0, none⟩ ∧ wB.cell? ⟨b, i, none⟩ = some (.string ⟨x.toArray⟩)) := fun i x hx => by
    obtain ⟨b, e, hc⟩ := K2.out i x hx
    exact ⟨b, e, cell_later hb hc⟩
  have BB := Lib.hid (B3.out.trans (hb.mono B3.out.size))
  have RB := Lib.hid (R0.out.later BB.out)
  have HN := Lib.hid hn
  generalize fitsL L C = ft at *
  generalize numL16 L = nl at *
  clear hb hn K2 K3 B3 hHs hLs R0
  obtain ⟨vo, vl, vf, vb, hI⟩ := RB.out
  have q10 : wB.cell? ⟨rd, 10, none⟩ = some (.int .i64 s.minor) := cell_of_heap hI.box
  have IB := Lib.hid hI
  clear hI
  go_upto_region 7 with (fail)
  go_cut [51] (fun sx wx => sx = .bool (decide (1 < H.length) || (H.isEmpty && s.minor == 1)) ∧ wx = wB)
  case first =>
    rcases H with _ | ⟨x, _ | ⟨y, r⟩⟩
    · simp only [List.length_nil]
      obtain ⟨mn, hmn⟩ : ∃ x, (s.minor == 1) = x := ⟨_, rfl⟩
      cases mn
      all_goals
        go_wp2_with fail
        go_meet
        case rel => exact ⟨by rw [hmn]; rfl, rfl⟩
    · have hlen1 : ([x] : List (List UInt8)).length = 1 := rfl
      rw [hlen1]
      go_wp2_with fail
      go_meet
      case rel => exact ⟨rfl, rfl⟩
    · have hd : (1 : Int) < (((x :: y :: r).length : Nat) : Int) := by simp only [List.length_cons]; omega
      have hd2 : decide (1 < (x :: y :: r).length) = true := decide_eq_true (by simp only [List.length_cons]; omega)
      generalize (x :: y :: r).length = nn at *
      have HD2 := Lib.hid hd2
      clear hd2
      go_wp2_with fail
      go_meet
      case rel => exact ⟨by rw [HD2.out]; rfl, rfl⟩
  case rest =>
  obtain ⟨rfl, rfl⟩ := hcut
  obtain ⟨wB, rfl⟩ : ∃ wx : World, wx = wc := ⟨_, rfl⟩
  generalize (decide (1 < H.length) || (H.isEmpty && s.minor == 1)) = bh at *
  cases bh with
  | true =>
    rw [if_pos rfl] at HE
    go_wp2_with fail
    refine (fail_any RB.out 64).mono ?_
    rintro e w7 ⟨rfl, ms7, r7, m7⟩
    go_wp2_with fail
    first | go_end0 | (refine bodyPost_ret (results_none rfl _ _ _) rfl ?_)
    rw [HE.out, List.append_nil]
    exact ⟨rfl, ms7, r7, (Mv.of_below BB.out).trans m7⟩
  | false =>
    rw [if_neg (by decide)] at HE
    go_upto_region 9 with (fail)
    go_cut [70] (fun sx wx => sx = .bool (decide (1 < C.length) || (C.length == 1 && (s.minor == 0 || smallL (C.headD []) != chunkedL))) ∧ Below wB.heap.size wB wx)
    case first =>
      rcases C with _ | ⟨x, _ | ⟨y, r⟩⟩
      · simp only [List.length_nil]
        go_wp2_with fail
        go_meet
        case rel => exact ⟨rfl, Below.refl _ _⟩
      · obtain ⟨g, rfl, k0⟩ := KC.out 0 x rfl
        have HSM := Lib.hid (fun W => small_any x (hCs x (by simp)) W)
        have hlen1 : ([x] : List (List UInt8)).length = 1 := rfl
        rw [hlen1]
        obtain ⟨mn, hmn⟩ : ∃ y, (s.minor == 0) = y := ⟨_, rfl⟩
        cases mn with
        | true =>
          go_wp2_with fail
          go_meet
          case rel => exact ⟨by rw [hmn]; rfl, Below.refl _ _⟩
        | false =>
          go_wp2_with fail
          refine (HSM.out _).mono ?_
          rintro e w8 ⟨rfl, hb8⟩
          have B8 := Lib.hid hb8
          clear hb8
          have hhd : ([x] : List (List UInt8)).headD [] = x := rfl
          obtain ⟨cv, hcv⟩ : ∃ y, (smallL x == chunkedL) = y := ⟨_, rfl⟩
          have hcv2 : (smallL x == [99, 104, 117, 110, 107, 101, 100]) = cv := hcv
          have HCV : Hid ((smallL x != chunkedL) = !cv) := by show _ = _; rw [bne, hcv]
          cases cv with
          | true =>
            have hsx : smallL x = [99, 104, 117, 110, 107, 101, 100] := beq_iff_eq.1 hcv2
            clear hcv hcv2
            go_wp2_with fail
            go_meet
            case rel => exact ⟨by rw [hhd, HCV.out, hmn]; rfl, B8.out⟩
          | false =>
            have hsx : ¬ smallL x = [99, 104, 117, 110, 107, 101, 100] := by rw [beq_eq_false_iff_ne] at hcv2; exact hcv2
            clear hcv
            go_wp2_with fail
            go_meet
            case rel => exact ⟨by rw [hhd, HCV.out, hmn]; rfl, B8.out⟩
      · have hd : (1 : Int) < (((x :: y :: r).length : Nat) : Int) := by simp only [List.length_cons]; omega
        have hd2 : decide (1 < (x :: y :: r).length) = true := decide_eq_true (by simp only [List.length_cons]; omega)
        generalize (x :: y :: r).length = nn at *
        have HD2 := Lib.hid hd2
        clear hd2
        go_wp2_with fail
        go_meet
        case rel => exact ⟨by rw [HD2.out]; rfl, Below.refl _ _⟩
    case rest =>
    obtain ⟨rfl, hb9⟩ := hcut
    obtain ⟨wC, rfl⟩ : ∃ wx : World, wx = wc := ⟨_, rfl⟩
    have BC := Lib.hid (BB.out.trans (hb9.mono BB.out.size))
    have RC := Lib.hid (RB.out.later hb9)
    have IC := Lib.hid (IB.out.later hb9)
    clear hb9 KC q10
    have hcl2 : (((C.length : Nat) : Int) == 1) = (C.length == 1) := by rw [Bool.eq_iff_iff]; simp only [beq_iff_eq]; omega
    generalize (C.length == 1) = cl at *
    generalize (decide (1 < C.length) || (cl && (s.minor == 0 || smallL (C.headD []) != chunkedL))) = bc at *
    cases bc with
    | true =>
      rw [if_pos rfl] at HE
      go_wp2_with fail
      refine (fail_any RC.out 69).mono ?_
      rintro e w7 ⟨rfl, ms7, r7, m7⟩
      go_wp2_with fail
      first | go_end0 | (refine bodyPost_ret (results_none rfl _ _ _) rfl ?_)
      rw [HE.out, List.append_nil]
      exact ⟨rfl, ms7, r7, (Mv.of_below BC.out).trans m7⟩
    | false =>
      rw [if_neg (by decide)] at HE
      cases ft with
      | false =>
        rw [if_pos (by rfl)] at HE
        go_wp2_with fail
        refine (fail_any RC.out 62).mono ?_
        rintro e w7 ⟨rfl, ms7, r7, m7⟩
        go_wp2_with fail
        first | go_end0 | (refine bodyPost_ret (results_none rfl _ _ _) rfl ?_)
        rw [HE.out, List.append_nil]
        exact ⟨rfl, ms7, r7, (Mv.of_below BC.out).trans m7⟩
      | true =>
        rw [if_neg (by decide)] at HE
        obtain rfl := HN.out rfl
        have q0 : wC.cell? ⟨rd, 0, none⟩ = some (nextV rd s.mode) := cell_of_heap IC.out.box
        have f0 : wC.frozen? ⟨rd, 0, none⟩ = false := free_of_heap IC.out.box
        have q15 : wC.cell? ⟨rd, 15, none⟩ = some (.int .i64 s.left) := cell_of_heap IC.out.box
        have f15 : wC.frozen? ⟨rd, 15, none⟩ = false := free_of_heap IC.out.box
        by_cases h8 : 8000 < n
        · rw [if_pos h8] at HE
          go_wp2_with fail
          refine (fail_any RC.out 65).mono ?_
          rintro e w7 ⟨rfl, ms7, r7, m7⟩
          go_wp2_with fail
          first | go_end0 | (refine bodyPost_ret (results_none rfl _ _ _) rfl ?_)
          rw [HE.out, List.append_nil]
          exact ⟨rfl, ms7, r7, (Mv.of_below BC.out).trans m7⟩
        · rw [if_neg h8] at HE
          have h9 : n ≤ 8000 := by omega
          clear h8
          cases cl with
          | true =>
            rw [if_pos rfl] at HE
            go_wp2_with fail
            first | go_end0 | (refine bodyPost_ret (results_none rfl _ _ _) rfl ?_)
            rw [HE.out, List.append_nil]
            have k1 := IC.out.set 15 (.int .i64 (-1)) { s with left := -1 } rfl rfl rfl rfl
            exact ⟨rfl, _, ⟨_, _, _, _, k1.set 0 (nextV rd .size) { s with left := -1, mode := .size } rfl rfl rfl rfl⟩, ((Mv.of_below BC.out).trans (IC.out.mvSet 15 _)).trans (k1.mvSet 0 _)⟩
          | false =>
            rw [if_neg (by decide)] at HE
            by_cases hz : n = 0
            · rw [if_pos hz] at HE
              have hz' := beq_int_true hz
              have HK := Lib.hid (complete_any RC.out hfl ho hsh)
              clear hz
              go_wp2_with fail
              refine HK.out.mono ?_
              rintro e w7 ⟨rfl, ms7, r7, m7⟩
              go_wp2_with fail
              first | go_end0 | (refine bodyPost_ret (results_none rfl _ _ _) rfl ?_)
              rw [HE.out]
              exact ⟨rfl, ms7, r7, (Mv.of_below BC.out).trans m7⟩
            · rw [if_neg hz] at HE
              have hz' := beq_int_false hz
              clear hz
              go_wp2_with fail
              first | go_end0 | (refine bodyPost_ret (results_none rfl _ _ _) rfl ?_)
              rw [HE.out, List.append_nil]
              have k1 := IC.out.set 15 (.int .i64 n) { s with left := n } rfl rfl rfl rfl
              exact ⟨rfl, _, ⟨_, _, _, _, k1.set 0 (nextV rd .bytes) { s with left := n, mode := .bytes } rfl rfl rfl rfl⟩, ((Mv.of_below BC.out).trans (IC.out.mvSet 15 _)).trans (k1.mvSet 0 _)⟩

end Go.Proofs.YtdilmefeofdkmaaGreatDoor
