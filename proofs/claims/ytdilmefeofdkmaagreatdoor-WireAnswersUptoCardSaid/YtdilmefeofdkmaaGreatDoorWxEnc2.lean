/-
  WIRE: the document's Encode.
-/
import Derived.Test.YtdilmefeofdkmaaGreatDoorWxEnc1
import Derived.Test.YtdilmefeofdkmaaGreatDoorWiAnsT
namespace Go.Proofs.YtdilmefeofdkmaaGreatDoor
open Go.RowKit Go.PlainAid

theorem str4b (a b c d e : List UInt8) : (⟨a.toArray⟩ : ByteArray) ++ ⟨b.toArray⟩ ++ ⟨c.toArray⟩ ++ ⟨d.toArray⟩ ++ ⟨e.toArray⟩ = ⟨(a ++ b ++ c ++ d ++ e).toArray⟩ := by rw [str_app, str_app, str_app, str_app]
theorem str4c (a b c d : List UInt8) : (⟨a.toArray⟩ : ByteArray) ++ ⟨b.toArray⟩ ++ ⟨c.toArray⟩ ++ ⟨d.toArray⟩ = ⟨(a ++ b ++ c ++ d).toArray⟩ := by rw [str_app, str_app, str_app]
theorem reason_nonneg {n : Int} (h : reasonL n ≠ []) : 0 ≤ n := by
  by_cases hn : 0 ≤ n
  · exact hn
  · exfalso
    apply h
    unfold reasonL
    repeat rw [if_neg (by omega)]
theorem badF_ref (f : List UInt8 × List UInt8) : badF f = (!allB f.1 nameB || !valB f.2 || smallL f.1 == longL || smallL f.1 == codingL || smallL f.1 == connL) := by
  unfold badF
  rw [Bool.or_assoc (!allB f.1 nameB || ownB f.1), valB_eq]
  unfold ownB
  simp only [List.contains_cons, List.contains_nil, Bool.or_false]
  generalize allB f.1 nameB = a
  generalize valB f.2 = b
  generalize (smallL f.1 == longL) = c
  generalize (smallL f.1 == codingL) = d
  generalize (smallL f.1 == connL) = e
  cases a <;> cases b <;> cases c <;> cases d <;> cases e <;> rfl

set_option maxHeartbeats 16000000 in
set_option maxRecDepth 100000 in
theorem rEncode_any (n : Int) (hn0 : IntOK n) {vf : Value} {fs : List (List UInt8 × List UInt8)} {w : World} (hF : PairsAt w vf fs) (hfl : (fs.flatMap fieldT).length ≤ 1000000000) (body : List UInt8) (hbl : body.length ≤ 1000000000) (bare close : Bool) :
    Calls Tryz.prog 23 #[.agg #[.int .i64 n, vf, .string ⟨body.toArray⟩, .bool bare, .bool close]] w fun e w' => e = .returned (.tuple #[.string ⟨((encodeV n fs body bare close).getD []).toArray⟩, .bool (encodeV n fs body bare close).isSome]) ∧ Below w.heap.size w w' := by
  obtain ⟨a, c, rfl, _, hfn, hc⟩ := hF
  have HC := Lib.hid hc
  have HLF := Lib.hid hfl
  have HBL := Lib.hid hbl
  obtain ⟨w1, hw1⟩ : ∃ w1, w.alloc (.cells #[.int .i64 n, .slice a fs.length c, .string ⟨body.toArray⟩, .bool bare, .bool close] 46) = w1 := ⟨_, rfl⟩
  have HB0 : Hid (Below w.heap.size w w1) := by rw [← hw1]; exact below_alloc (Below.refl _ _) (Nat.le_refl _) _
  have p0 : Hid (w1.cell? ⟨w.heap.size, 0, none⟩ = some (.int .i64 n)) := by show _ = _; rw [← hw1]; exact cell_new _ _ _ _ _ _ rfl rfl
  have p1 : Hid (w1.cell? ⟨w.heap.size, 1, none⟩ = some (.slice a fs.length c)) := by show _ = _; rw [← hw1]; exact cell_new _ _ _ _ _ _ rfl rfl
  have p2 : Hid (w1.cell? ⟨w.heap.size, 2, none⟩ = some (.string ⟨body.toArray⟩)) := by show _ = _; rw [← hw1]; exact cell_new _ _ _ _ _ _ rfl rfl
  have p3 : Hid (w1.cell? ⟨w.heap.size, 3, none⟩ = some (.bool bare)) := by show _ = _; rw [← hw1]; exact cell_new _ _ _ _ _ _ rfl rfl
  have p4 : Hid (w1.cell? ⟨w.heap.size, 4, none⟩ = some (.bool close)) := by show _ = _; rw [← hw1]; exact cell_new _ _ _ _ _ _ rfl rfl
  have q0 := p0.out
  have q1 := p1.out
  have q2 := p2.out
  have hre := fun W => rReason_any n W
  have HNN := Lib.hid (reason_nonneg (n := n))
  obtain ⟨rs, hrs⟩ : ∃ x, reasonL n = x := ⟨_, rfl⟩
  rw [hrs] at hre
  have HRE := Lib.hid hre
  have HRS := Lib.hid hrs
  have HRL := Lib.hid (reasonL_len n)
  have HII := Lib.hid (itoa_len30 n hn0)
  clear hre hrs hc hfl hbl
  go_enter Tryz.func23, Tryz.ntmps23
  go_upto_region 1 with (fail)
  have HW1 := Lib.hid hw1
  clear hw1
  go_wp2_with fail
  refine (HRE.out _).mono ?_
  rintro e w2 ⟨rfl, rfl⟩
  obtain ⟨w1, rfl⟩ : ∃ wx : World, wx = w2 := ⟨_, rfl⟩
  by_cases hbad : rs = [] ∨ 1000000 < body.length ∨ (n = 204 ∧ body ≠ [])
  · have HE : Hid (encodeV n fs body bare close = none) := by show _ = _; unfold encodeV; rw [HRS.out, if_pos hbad]
    by_cases h1 : rs = []
    · subst h1
      go_wp2
      go_ret2
      exact ⟨by rw [HE.out]; rfl, HB0.out⟩
    have h1b : (rs == []) = false := by simpa using h1
    by_cases h2 : 1000000 < body.length
    · have h2z : (1000000 : Int) < (body.length : Int) := by omega
      go_wp2
      go_ret2
      exact ⟨by rw [HE.out]; rfl, HB0.out⟩
    have h2z : (body.length : Int) ≤ 1000000 := by omega
    have h2d : decide ((1000000 : Int) < (body.length : Int)) = false := decide_eq_false (by omega)
    obtain ⟨h3a, h3b⟩ : n = 204 ∧ body ≠ [] := by
      rcases hbad with h | h | h
      · exact absurd h h1
      · exact absurd h h2
      · exact h
    subst h3a
    have h3c : (body == []) = false := by simpa using h3b
    have h3d : (body != []) = true := by rw [bne, h3c]; rfl
    clear hbad
    go_wp2
    go_ret2
    exact ⟨by rw [HE.out]; rfl, HB0.out⟩
  have h1 : rs ≠ [] := fun h => hbad (.inl h)
  have h1b : (rs == []) = false := by simpa using h1
  have h2z : (body.length : Int) ≤ 1000000 := by
    have : ¬ 1000000 < body.length := fun h => hbad (.inr (.inl h))
    omega
  have h2d : decide ((1000000 : Int) < (body.length : Int)) = false := decide_eq_false (by omega)
  have HNO : Hid (fs.any badF = true → encodeV n fs body bare close = none) := fun hb => by
    unfold encodeV
    rw [HRS.out, if_neg hbad, if_pos hb]
  have HYES : Hid (fs.any badF = false → encodeV n fs body bare close = some (headT n ++ fs.flatMap fieldT ++ (if n ≠ 204 then clT ++ Lib.itoa body.length ++ endL else []) ++ (if close then connT else []) ++ endL ++ (if bare then [] else body))) := fun hb => by
    unfold encodeV
    rw [HRS.out, if_neg hbad, if_neg (by simp [hb])]
  have hn0' : 0 ≤ n := HNN.out (by rw [HRS.out]; exact h1)
  obtain ⟨k, hk⟩ : ∃ k : Nat, n = (k : Int) := ⟨n.toNat, by omega⟩
  have HIT : Hid (Lib.itoa n = Lib.decDigits k) := by show _ = _; rw [hk, Lib.itoa_nonneg]
  have HDG : Hid (∀ W, Calls Tryz.prog 44 #[.int .i64 n] W fun e w' => e = .returned (.string ⟨(Lib.itoa n).toArray⟩) ∧ Below W.heap.size W w') := fun W => by
    have := digits_any k W (by unfold IntOK at hn0; omega)
    rw [← hk] at this
    refine this.mono ?_
    rintro e w' ⟨rfl, m, rfl⟩
    exact ⟨by rw [HIT.out], belowDrewN (Below.refl _ _) m⟩
  go_upto_region 2 with (fail)
  go_cut [30] (fun sx wx => sx = .bool false ∧ wx = w1)
  case first =>
    by_cases hn : n = 204
    · have hnb : (n == 204) = true := by simp [hn]
      have hbe : body = [] := by
        by_cases hb : body = []
        · exact hb
        · exact absurd (.inr (.inr ⟨hn, hb⟩)) hbad
      have hbb : (body == []) = true := by simp [hbe]
      have hbn : (body != []) = false := by simp [hbe]
      clear hbad hn h1 hk hn0'
      go_wp2_with fail
      go_meet
      exact ⟨rfl, rfl⟩
    · have hnb : (n == 204) = false := by simp [hn]
      clear hbad hn h1 hk hn0'
      go_wp2_with fail
      go_meet
      exact ⟨rfl, rfl⟩
  case rest =>
  obtain ⟨rfl, rfl⟩ := hcut
  obtain ⟨w1, rfl⟩ : ∃ wx : World, wx = wc := ⟨_, rfl⟩
  clear hbad h1b h2d hk hn0'
  have hrl := HRL.out
  rw [HRS.out] at hrl
  have hil := HII.out
  obtain ⟨H, hH⟩ : ∃ x, headT n = x := ⟨_, rfl⟩
  have HHT : Hid ([72, 84, 84, 80, 47, 49, 46, 49, 32] ++ Lib.itoa n ++ [32] ++ rs ++ [13, 10] = H) := by show _ = _; rw [← hH]; unfold headT; rw [HRS.out]
  have HHL : Hid (H.length ≤ 1000) := by
    show _ ≤ _
    rw [← HHT.out]
    simp only [List.length_append, List.length_cons, List.length_nil]
    omega
  rw [hH] at HYES
  generalize Lib.itoa n = it at *
  clear hH h1
  go_wp2_with fail
  refine (HDG.out _).mono ?_
  rintro e w3 ⟨rfl, hb3⟩
  have B3 := Lib.hid hb3
  clear hb3 q0 q1 q2
  go_wp2
  go_loopg [5, 6, 7, 8, 9] fs.length (fun gg s5 s6 _ _ _ wr => ∃ i : Nat, i ≤ fs.length ∧ fs.length - i ≤ gg ∧ s6 = .int .i64 i ∧ s5 = .string ⟨(H ++ (fs.take i).flatMap fieldT).toArray⟩ ∧ Hid (Below w1.heap.size w1 wr) ∧ Hid ((fs.take i).any badF = false))
  case atStart => exact ⟨0, Nat.zero_le _, by omega, rfl, (by rw [str4b, HHT.out]; simp), B3, rfl⟩
  case round =>
    obtain ⟨i, hin, hg, rfl, rfl, BR, NB⟩ := hrel
    have q1 : wr.cell? ⟨w.heap.size, 1, none⟩ = some (.slice a fs.length c) := cell_later BR.out p1.out
    by_cases hlt : i < fs.length
    · have hltz : (i : Int) < (fs.length : Int) := by omega
      obtain ⟨f, hif⟩ : ∃ f, fs[i]? = some f := ⟨_, List.getElem?_eq_getElem hlt⟩
      obtain ⟨b, off, rfl, k0, k1⟩ := HC.out i f hif
      have hmem := List.mem_of_getElem? hif
      have htk : fs.take (i + 1) = fs.take i ++ [f] := by rw [List.take_add_one, hif]; rfl
      have HTK : Hid ((fs.take (i + 1)).flatMap fieldT = (fs.take i).flatMap fieldT ++ fieldT f) := by show _ = _; rw [htk, List.flatMap_append]; simp
      have HLI : Hid (((fs.take i).flatMap fieldT).length + f.1.length + f.2.length + 4 ≤ 1000000000) := by
        show _ ≤ _
        have h2 : fs.flatMap fieldT = (fs.take (i + 1)).flatMap fieldT ++ (fs.drop (i + 1)).flatMap fieldT := by rw [← List.flatMap_append, List.take_append_drop]
        have h3 := HLF.out
        rw [h2, HTK.out] at h3
        simp only [List.length_append, fieldT, List.length_cons, List.length_nil] at h3
        omega
      have ENN : Hid (badF f = true → encodeV n fs body bare close = none) := fun hbf => HNO.out (List.any_eq_true.2 ⟨f, hmem, hbf⟩)
      have HNB : Hid (badF f = false → Hid ((fs.take (i + 1)).any badF = false)) := fun hbf => by show _ = _; rw [htk, List.any_append, NB.out]; simp [hbf]
      have HBE := Lib.hid (badF_ref f)
      have hl0 := HLI.out
      have E0 := Lib.hid (cell_later (HB0.out.trans (BR.out.mono HB0.out.size)) k0)
      have E1 := Lib.hid (cell_later (HB0.out.trans (BR.out.mono HB0.out.size)) k1)
      obtain ⟨nm, vl⟩ := f
      simp only at HLI hl0 E0 E1 HBE
      have HNM : Hid (∀ W, Calls Tryz.prog 45 #[.string ⟨nm.toArray⟩] W fun e w' => e = .returned (.bool (allB nm nameB)) ∧ w' = W) := fun W => rName_any ⟨nm.toArray⟩ W (by simp [ByteArray.size]; omega)
      have HVL : Hid (∀ W, Calls Tryz.prog 46 #[.string ⟨vl.toArray⟩] W fun e w' => e = .returned (.bool (valB vl)) ∧ w' = W) := fun W => rValue_any ⟨vl.toArray⟩ W (by simp [ByteArray.size]; omega)
      have HSM := Lib.hid (fun W => rSmall_any nm (by omega) W)
      obtain ⟨x1, hx1⟩ : ∃ x, allB nm nameB = x := ⟨_, rfl⟩
      obtain ⟨x2, hx2⟩ : ∃ x, valB vl = x := ⟨_, rfl⟩
      rw [hx1] at HNM HBE
      rw [hx2] at HVL HBE
      generalize smallL nm = sm at *
      generalize hY : (fs.take i).flatMap fieldT = Y at *
      have hXl : (H ++ Y).length ≤ 1000001000 := by have := HHL.out; rw [List.length_append]; omega
      obtain ⟨X, hX⟩ : ∃ X, H ++ Y = X := ⟨_, rfl⟩
      have HXQ := Lib.hid hX
      rw [hX] at hXl ⊢
      have e0 := E0.out
      have e1 := E1.out
      clear k0 k1 hmem htk hif hY hX hx1 hx2
      go_wp2_with fail
      refine (HNM.out _).mono ?_
      rintro e w4 ⟨rfl, rfl⟩
      go_wp2_with fail
      refine (HVL.out _).mono ?_
      rintro e w5 ⟨rfl, rfl⟩
      go_wp2_with fail
      refine (HSM.out _).mono ?_
      rintro e w6 ⟨rfl, hb6⟩
      have B6 := Lib.hid (BR.out.trans (hb6.mono BR.out.size))
      have e0 := cell_later hb6 E0.out
      have e1 := cell_later hb6 E1.out
      have q1 := cell_later hb6 q1
      clear hb6 HNM HVL HSM E0 E1 BR
      have hlong : longL = [99, 111, 110, 116, 101, 110, 116, 45, 108, 101, 110, 103, 116, 104] := rfl
      have hcod : codingL = [116, 114, 97, 110, 115, 102, 101, 114, 45, 101, 110, 99, 111, 100, 105, 110, 103] := rfl
      have hcon : connL = [99, 111, 110, 110, 101, 99, 116, 105, 111, 110] := rfl
      rw [hlong, hcod, hcon] at HBE
      clear hlong hcod hcon
      go_upto_region 11 with (fail)
      go_cut [84] (fun sx wx => sx = .bool (badF (nm, vl)) ∧ wx = w6)
      case first =>
        cases x1
        · go_wp2_with fail
          go_meet
          exact ⟨by rw [HBE.out]; rfl, rfl⟩
        cases x2
        · go_wp2_with fail
          go_meet
          exact ⟨by rw [HBE.out]; rfl, rfl⟩
        by_cases m0 : sm = [99, 111, 110, 116, 101, 110, 116, 45, 108, 101, 110, 103, 116, 104]
        · subst m0
          go_wp2_with fail
          go_meet
          exact ⟨by rw [HBE.out]; rfl, rfl⟩
        have m0b : (sm == [99, 111, 110, 116, 101, 110, 116, 45, 108, 101, 110, 103, 116, 104]) = false := by rw [beq_eq_false_iff_ne]; exact m0
        by_cases m1 : sm = [116, 114, 97, 110, 115, 102, 101, 114, 45, 101, 110, 99, 111, 100, 105, 110, 103]
        · subst m1
          go_wp2_with fail
          go_meet
          exact ⟨by rw [HBE.out]; rfl, rfl⟩
        have m1b : (sm == [116, 114, 97, 110, 115, 102, 101, 114, 45, 101, 110, 99, 111, 100, 105, 110, 103]) = false := by rw [beq_eq_false_iff_ne]; exact m1
        by_cases m2 : sm = [99, 111, 110, 110, 101, 99, 116, 105, 111, 110]
        · subst m2
          go_wp2_with fail
          go_meet
          exact ⟨by rw [HBE.out]; rfl, rfl⟩
        have m2b : (sm == [99, 111, 110, 110, 101, 99, 116, 105, 111, 110]) = false := by rw [beq_eq_false_iff_ne]; exact m2
        go_wp2_with fail
        go_meet
        exact ⟨by rw [HBE.out, m0b, m1b, m2b]; rfl, rfl⟩
      case rest =>
      obtain ⟨rfl, rfl⟩ := hcut
      obtain ⟨w6, rfl⟩ : ∃ wx : World, wx = wc := ⟨_, rfl⟩
      obtain ⟨bd, hbd⟩ : ∃ x, badF (nm, vl) = x := ⟨_, rfl⟩
      rw [hbd] at ENN HNB ⊢
      clear HBE hbd
      cases bd with
      | true =>
        have HE := Lib.hid (ENN.out rfl)
        go_wp2
        go_ret2
        exact ⟨by rw [HE.out]; rfl, HB0.out.trans (B6.out.mono HB0.out.size)⟩
      | false =>
        have NB2 := HNB.out rfl
        clear HNB ENN
        go_wp2
        go_region
        go_wp2
        go_roundg (fs.length - (i + 1))
        case measure => omega
        case rel => exact ⟨i + 1, by omega, by omega, by go_num, (by rw [HTK.out, ← List.append_assoc, HXQ.out]; first | rfl | (rw [str4b]; simp [fieldT]) | (simp [fieldT])), Below.drew B6.out, NB2⟩
    · have he : i = fs.length := by omega
      subst he
      rw [List.take_length] at NB ⊢
      have HTX := Lib.hid (HYES.out NB.out)
      have HFL : Hid ((fs.flatMap fieldT).length ≤ 1000000000) := HLF.out
      have HIL : Hid ((Lib.itoa (body.length : Int)).length ≤ 30) := itoa_len30 _ ⟨by omega, by omega⟩
      have HDB : Hid (∀ W, Calls Tryz.prog 44 #[.int .i64 (body.length : Int)] W fun e w' => e = .returned (.string ⟨(Lib.itoa (body.length : Int)).toArray⟩) ∧ Below W.heap.size W w') := fun W => by
        refine (digits_any body.length W (by have := HBL.out; omega)).mono ?_
        rintro e w' ⟨rfl, m, rfl⟩
        exact ⟨by rw [Lib.itoa_nonneg], belowDrewN (Below.refl _ _) m⟩
      have hXl : (H ++ fs.flatMap fieldT).length ≤ 1000001000 := by have := HHL.out; have := HFL.out; rw [List.length_append]; omega
      generalize hFX : H ++ fs.flatMap fieldT = X0 at *
      have p0w : wr.cell? ⟨w.heap.size, 0, none⟩ = some (.int .i64 n) := cell_later BR.out p0.out
      have p2w : wr.cell? ⟨w.heap.size, 2, none⟩ = some (.string ⟨body.toArray⟩) := cell_later BR.out p2.out
      obtain ⟨w3, rfl⟩ : ∃ wx : World, wx = wr := ⟨_, rfl⟩
      clear hlt hg hin HC NB HNO HYES HLF HFL
      obtain ⟨ib, hib⟩ : ∃ x, Lib.itoa (body.length : Int) = x := ⟨_, rfl⟩
      rw [hib] at HIL HDB HTX
      clear hib
      have hil2 := HIL.out
      go_upto_if 104 with (fail)
      go_cut [5] (fun s5 wx => s5 = .string ⟨(X0 ++ (if n ≠ 204 then clT ++ ib ++ endL else [])).toArray⟩ ∧ Hid (Below w3.heap.size w3 wx))
      case first =>
        by_cases hn : n = 204
        · have hnb : (n != 204) = false := by simp [hn]
          have HN := Lib.hid hn
          clear hn
          go_wp2_with fail
          go_meet
          case rel => exact ⟨by rw [if_neg (by rw [HN.out]; simp), List.append_nil], Below.refl _ _⟩
        · have hnb : (n != 204) = true := by simp [hn]
          have HN := Lib.hid hn
          clear hn
          go_wp2_with fail
          refine (HDB.out _).mono ?_
          rintro e w5 ⟨rfl, hb5⟩
          have B5 := Lib.hid hb5
          clear hb5
          go_wp2_with fail
          go_meet
          case rel => exact ⟨(by rw [if_pos HN.out]; first | (rw [str4c]; simp [clT, endL]) | simp [clT, endL]), B5⟩
      case rest =>
      obtain ⟨rfl, BC1⟩ := hcut
      obtain ⟨w4, rfl⟩ : ∃ wx : World, wx = wc := ⟨_, rfl⟩
      have B4 := Lib.hid (BR.out.trans (BC1.out.mono BR.out.size))
      have hX1l : (X0 ++ (if n ≠ 204 then clT ++ ib ++ endL else [])).length ≤ 1000002000 := by
        rw [List.length_append]
        split
        · simp only [List.length_append, clT, endL, List.length_cons, List.length_nil]; omega
        · simp only [List.length_nil]; omega
      generalize X0 ++ (if n ≠ 204 then clT ++ ib ++ endL else []) = X1 at *
      have p4w : w4.cell? ⟨w.heap.size, 4, none⟩ = some (.bool close) := cell_later B4.out p4.out
      clear BC1 p0w p2w hXl hil2 BR
      go_upto_if 114 with (fail)
      go_cut [5] (fun s5 wx => s5 = .string ⟨(X1 ++ (if close then connT else [])).toArray⟩ ∧ wx = w4)
      case first =>
        cases close
        · go_wp2_with fail
          go_meet
          case rel => exact ⟨by simp, rfl⟩
        · go_wp2_with fail
          go_meet
          case rel => exact ⟨(by first | (rw [str_app]; simp [connT]) | simp [connT]), rfl⟩
      case rest =>
      obtain ⟨rfl, rfl⟩ := hcut
      obtain ⟨w4, rfl⟩ : ∃ wx : World, wx = wc := ⟨_, rfl⟩
      have hX2l : (X1 ++ (if close then connT else [])).length ≤ 1000003000 := by
        rw [List.length_append]
        split
        · simp only [connT, List.length_cons, List.length_nil]; omega
        · simp only [List.length_nil]; omega
      generalize X1 ++ (if close then connT else []) = X2 at *
      clear hX1l p4w
      have p3w : w4.cell? ⟨w.heap.size, 3, none⟩ = some (.bool bare) := cell_later B4.out p3.out
      have p2w : w4.cell? ⟨w.heap.size, 2, none⟩ = some (.string ⟨body.toArray⟩) := cell_later B4.out p2.out
      have hbl := HBL.out
      cases bare
      · go_wp2
        go_ret2
        rw [HTX.out]
        exact ⟨(by simp only [Option.getD_some, Option.isSome_some, Bool.false_eq_true, if_false]; first | (rw [str_app, str_app]; rfl) | (rw [← str_app, ← str_app]; rfl) | (simp [endL])), HB0.out.trans (B4.out.mono HB0.out.size)⟩
      · go_wp2
        go_ret2
        rw [HTX.out]
        exact ⟨(by simp only [Option.getD_some, Option.isSome_some, if_true, List.append_nil]; first | (rw [str_app]; rfl) | (rw [← str_app]; rfl) | (simp [endL])), HB0.out.trans (B4.out.mono HB0.out.size)⟩

end Go.Proofs.YtdilmefeofdkmaaGreatDoor
