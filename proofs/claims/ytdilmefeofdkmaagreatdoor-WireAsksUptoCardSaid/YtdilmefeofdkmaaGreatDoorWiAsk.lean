/-
  WIRE: Ask.
-/
import Derived.Test.YtdilmefeofdkmaaGreatDoorSm19
import Derived.Deep.CutBlock
namespace Go.Proofs.YtdilmefeofdkmaaGreatDoor
open Go.RowKit

/-- what Ask answers -/
def AskOut (r : ReqV) (w : World) (e : Ending) (w' : World) : Prop := e = .returned (.tuple #[.string ⟨(if askOK r then askT r else []).toArray⟩, .int .i64 (if askOK r then 0 else 1)]) ∧ Below w.heap.size w w'

set_option maxHeartbeats 16000000 in
set_option maxRecDepth 100000 in
theorem ask_any (r : ReqV) (vf : Value) (w : World) (hG : Glob w) (hF : PairsAt w vf r.fields) (hl : (askT r).length ≤ 1000000000) (hm0 : IntOK r.minor) :
    Calls Tryz.prog 30 #[reqAgg r vf] w (AskOut r w) := by
  obtain ⟨i0, hi, hz0, hz1, hz2⟩ := info_pair
  have HG : Hid (∀ W, Below w.heap.size w W → Glob W) := fun W hW => hG.later hW
  have HF := Lib.hid hF
  have HM0 := Lib.hid hm0
  have HLT : Hid ((r.fields.flatMap fieldT).length + r.meth.length + r.target.length + r.body.length ≤ 1000000000) := by
    show _ ≤ _
    refine Nat.le_trans ?_ hl
    unfold askT askHead fullV
    simp only [List.length_append, List.flatMap_append]
    omega
  have HOK : Hid (askOK r = ((r.minor == 0 || r.minor == 1) && !r.fields.any keptB && backOK r)) := rfl
  obtain ⟨a, c, hv, hfc, hfl, _⟩ := hF
  obtain ⟨R, hR⟩ : ∃ R, r = R := ⟨_, rfl⟩
  have HR := Lib.hid hR
  obtain ⟨me, ta, mi, fs, bd, cl⟩ := r
  rw [hR] at HOK
  simp only at HLT hfl hfc hv HM0 HF HOK
  subst hv
  show Calls _ _ #[.agg #[.string ⟨me.toArray⟩, .string ⟨ta.toArray⟩, .int .i64 mi, .slice a fs.length c, .string ⟨bd.toArray⟩, .bool cl]] _ _
  rw [hR]
  have HOK2 : Hid (askOK R = ((mi == 0 || mi == 1) && !fs.any keptB && backOK R)) := by show _ = _; rw [HOK.out, ← hR]
  have HLA := Lib.hid hl
  rw [hR] at HLA
  clear hG hl hm0 hR HOK
  obtain ⟨w1, hw1⟩ : ∃ w1, w.alloc (.cells #[.string ⟨me.toArray⟩, .string ⟨ta.toArray⟩, .int .i64 mi, .slice a fs.length c, .string ⟨bd.toArray⟩, .bool cl] 31) = w1 := ⟨_, rfl⟩
  have HB0 : Hid (Below w.heap.size w w1) := by rw [← hw1]; exact below_alloc (Below.refl _ _) (Nat.le_refl _) _
  have HBX : Hid (w1.heap[w.heap.size]? = some (.cells #[.string ⟨me.toArray⟩, .string ⟨ta.toArray⟩, .int .i64 mi, .slice a fs.length c, .string ⟨bd.toArray⟩, .bool cl] 31 (0, 0))) := by show _ = _; rw [← hw1]; exact heap_alloc_new _ _
  have HP : Hid (∀ W, Below w1.heap.size w1 W → ∀ (k : Nat) v, (#[Value.string ⟨me.toArray⟩, .string ⟨ta.toArray⟩, .int .i64 mi, .slice a fs.length c, .string ⟨bd.toArray⟩, .bool cl] : Array Value)[k]? = some v → W.cell? ⟨w.heap.size, k, none⟩ = some v) := fun W hW k v hk => by
    refine cell_later hW ?_
    simp only [World.cell?, HBX.out]
    exact hk
  have q2 := HP.out w1 (Below.refl _ _) 2 (.int .i64 mi) rfl
  have HW1 := Lib.hid hw1
  clear hw1
  go_enter Tryz.func30, Tryz.ntmps30
  go_upto_region 1 with (fail)
  rw [HW1.out]
  by_cases hmi : mi = 0 ∨ mi = 1
  case neg =>
    have n0 : (mi == 0) = false := by rw [beq_eq_false_iff_ne]; exact fun h => hmi (.inl h)
    have n1 : (mi == 1) = false := by rw [beq_eq_false_iff_ne]; exact fun h => hmi (.inr h)
    have n2 : (mi != 0) = true := by rw [bne, n0]; rfl
    have n3 : (mi != 1) = true := by rw [bne, n1]; rfl
    have HE : Hid (askOK R = false) := by show _ = _; rw [HOK2.out, n0, n1]; rfl
    clear hmi
    go_wp2_with fail
    go_ret2
    exact ⟨by rw [HE.out]; rfl, HB0.out⟩
  case pos =>
  go_cut [20] (fun sx wx => sx = .bool false ∧ wx = w1)
  case first =>
    rcases hmi with rfl | rfl
    · go_wp2_with fail
      go_meet
      exact ⟨rfl, rfl⟩
    · go_wp2_with fail
      go_meet
      exact ⟨rfl, rfl⟩
  case rest =>
  obtain ⟨rfl, rfl⟩ := hcut
  obtain ⟨w1, rfl⟩ : ∃ wx : World, wx = wc := ⟨_, rfl⟩
  have HMI := Lib.hid hmi
  clear hmi
  have hf4 := fields_len fs
  have hlt0 := HLT.out
  have HCL := Lib.hid (clone_any (HF.out.later HB0.out) (by omega))
  have q3 := HP.out w1 (Below.refl _ _) 3 (.slice a fs.length c) rfl
  clear HF
  go_wp2_with fail
  refine HCL.out.mono ?_
  rintro e w2 ⟨v2, rfl, o2, b2⟩
  obtain ⟨a2, c2, rfl⟩ := rowB_form o2
  have FL : Hid (FlAt w1 w2 (.slice a2 fs.length c2) fs) := ⟨o2, b2⟩
  clear o2 b2 HCL q2 q3
  go_wp2
  go_loopg [6, 26] fs.length (fun gg _ s26 wr => ∃ i : Nat, i ≤ fs.length ∧ fs.length - i ≤ gg ∧ s26 = .int .i64 i ∧ Hid (Below w2.heap.size w2 wr) ∧ Hid ((fs.take i).any keptB = false))
  case atStart => exact ⟨0, Nat.zero_le _, by omega, rfl, Below.refl _ _, rfl⟩
  case round =>
    obtain ⟨i, hin, hg, rfl, BR, NB⟩ := hrel
    by_cases hlt : i < fs.length
    · have hltz : (i : Int) < (fs.length : Int) := by omega
      obtain ⟨f, hif⟩ : ∃ f, fs[i]? = some f := ⟨_, List.getElem?_eq_getElem hlt⟩
      obtain ⟨a3, c3, he3, _, _, hcc⟩ := (FL.out.later BR.out).pairs (by omega)
      injection he3 with he1 _ he2
      subst he1 he2
      obtain ⟨b, off, rfl, k0, k1⟩ := hcc i f hif
      have HNB : Hid (keptB f = false → Hid ((fs.take (i + 1)).any keptB = false)) := fun hbf => by show _ = _; rw [List.take_add_one, hif, List.any_append, NB.out]; simp [hbf]
      have HNO : Hid (keptB f = true → askOK R = false) := fun hbf => by
        rw [HOK2.out, List.any_eq_true.2 ⟨f, List.mem_of_getElem? hif, hbf⟩]
        simp
      have HKB : Hid (keptB f = (f.1 == longL || f.1 == codingL || f.1 == connL)) := rfl
      obtain ⟨nm, vl⟩ := f
      simp only at HKB k0 k1
      clear hcc hif hlt
      by_cases h1 : nm = longL
      · have HE := HNO.out (by rw [HKB.out, h1]; rfl)
        subst h1
        unfold longL at k0
        go_wp2_with fail
        go_ret2
        refine ⟨by rw [HE]; rfl, HB0.out.trans ((FL.out.2.trans ((below_alloc BR.out (Nat.le_refl _) _).mono FL.out.2.size)).mono HB0.out.size)⟩
      · by_cases h2 : nm = codingL
        · have HE := HNO.out (by rw [HKB.out, h2]; rfl)
          subst h2
          unfold codingL at k0
          go_wp2_with fail
          go_ret2
          refine ⟨by rw [HE]; rfl, HB0.out.trans ((FL.out.2.trans ((below_alloc BR.out (Nat.le_refl _) _).mono FL.out.2.size)).mono HB0.out.size)⟩
        · by_cases h3 : nm = connL
          · have HE := HNO.out (by rw [HKB.out, h3]; rfl)
            subst h3
            unfold connL at k0
            go_wp2_with fail
            go_ret2
            refine ⟨by rw [HE]; rfl, HB0.out.trans ((FL.out.2.trans ((below_alloc BR.out (Nat.le_refl _) _).mono FL.out.2.size)).mono HB0.out.size)⟩
          · have HN := Lib.hid (HNB.out (by rw [HKB.out]; simp [h1, h2, h3]))
            have x1 : (nm == [99, 111, 110, 116, 101, 110, 116, 45, 108, 101, 110, 103, 116, 104]) = false := by rw [beq_eq_false_iff_ne]; exact h1
            have x2 : (nm == [116, 114, 97, 110, 115, 102, 101, 114, 45, 101, 110, 99, 111, 100, 105, 110, 103]) = false := by rw [beq_eq_false_iff_ne]; exact h2
            have x3 : (nm == [99, 111, 110, 110, 101, 99, 116, 105, 111, 110]) = false := by rw [beq_eq_false_iff_ne]; exact h3
            have y1 : ¬ nm = [99, 111, 110, 116, 101, 110, 116, 45, 108, 101, 110, 103, 116, 104] := h1
            have y2 : ¬ nm = [116, 114, 97, 110, 115, 102, 101, 114, 45, 101, 110, 99, 111, 100, 105, 110, 103] := h2
            have y3 : ¬ nm = [99, 111, 110, 110, 101, 99, 116, 105, 111, 110] := h3
            clear h1 h2 h3
            go_wp2_with fail
            go_roundg (fs.length - (i + 1))
            case measure => omega
            case rel => exact ⟨i + 1, by omega, by omega, by go_num, below_alloc BR.out (Nat.le_refl _) _, HN.out.out⟩
    · have he : i = fs.length := by omega
      subst he
      rw [List.take_length] at NB
      have BW := Lib.hid (FL.out.2.trans (BR.out.mono FL.out.2.size))
      have q4 := HP.out wr BW.out 4 (.string ⟨bd.toArray⟩) rfl
      have FR := Lib.hid (FL.out.later BR.out)
      clear BR FL hlt hg hin
      go_upto_if 46 with (fail)
      go_cut [4] (fun s4 wx => ∃ v, s4 = v ∧ Hid (FlAt w1 wx v (fs ++ addLen bd)))
      case first =>
        by_cases hbd : bd = []
        · have HAD : Hid (fs ++ addLen bd = fs) := by show _ = _; unfold addLen; rw [if_pos hbd, List.append_nil]
          subst hbd
          go_wp2_with fail
          go_meet
          case rel => exact ⟨_, rfl, by rw [HAD.out]; exact FR⟩
        · have HAD : Hid (fs ++ addLen bd = fs ++ [(longL, Lib.itoa bd.length)]) := by show _ = _; unfold addLen; rw [if_neg hbd]
          obtain ⟨b0, bt, rfl⟩ := List.exists_cons_of_ne_nil hbd
          clear hbd
          have hcast : ((b0 :: bt).length : Int) = (bt.length : Int) + 1 := by simp
          have hbl : bt.length + 1 ≤ 1000000000 := by simp only [List.length_cons] at hlt0; omega
          rw [hcast] at HAD
          go_wp2_with fail
          refine (itoa_any _ ⟨by omega, by omega⟩ _ (HG.out _ (HB0.out.trans (BW.out.mono HB0.out.size)))).mono ?_
          rintro e w_i ⟨rfl, h_i⟩
          have FI := Lib.hid (FR.out.later h_i)
          have hsz := FI.out.2.size
          generalize Lib.itoa ((bt.length : Int) + 1) = it at *
          clear h_i
          go_wp2_with (at_builtin; refine wpList_append_lies _ rfl _ _ 29 rfl w1.heap.size 58 i0 _ 2 32 Tryz.underlying29 hi hz0 hz1 hz2 rfl (by decide) _ _ _ rfl (FI.out.1.alloc _) ⟨w_i.heap.size, 0, none⟩ 1 1 [.string ⟨longL.toArray⟩, .string ⟨it.toArray⟩] rfl rfl (fun j u hj => cells_new _ _ _ _ _ (by simpa [longL] using hj)) (by simp [Value.oneCell']) (by decide) (by simp only [maxLen]; omega) (by omega) (by simp; omega) _ rfl ?_)
          intro gn cap w5 hown hgr hat hlt5
          have F5 : Hid (FlAt w1 w5 (.slice (some ⟨gn, 0, none⟩) (fs.length + 1) cap) (fs ++ [(longL, it)])) := by
            refine FlAt.push (FI.out.later (below_alloc (Below.refl _ _) (Nat.le_refl _) _)) hown (Chg.grown hgr) fun k hk => ?_
            exact (FI.out.1.lt k hk.symm).1
          clear hown hgr hat hlt5
          go_wp2_with fail
          go_meet
          case rel => exact ⟨_, rfl, by rw [HAD.out]; exact F5⟩
      case rest =>
      obtain ⟨v4, hv4, F4⟩ := hcut
      obtain ⟨w4, rfl⟩ : ∃ wx : World, wx = wc := ⟨_, rfl⟩
      obtain ⟨G, hGG⟩ : ∃ G, fs ++ addLen bd = G := ⟨_, rfl⟩
      have HGG := Lib.hid hGG
      have HGL : Hid (G.length ≤ 250000001 ∧ (G.flatMap fieldT).length + me.length + ta.length + bd.length ≤ 1000000060) := by
        rw [← hGG]
        have h1 := itoa_len30 (bd.length : Int) ⟨by omega, by omega⟩
        constructor
        · rw [List.length_append]
          have : (addLen bd).length ≤ 1 := by unfold addLen; split <;> simp
          omega
        · rw [List.flatMap_append, List.length_append]
          have : ((addLen bd).flatMap fieldT).length ≤ 50 := by
            unfold addLen
            split
            · simp
            · simp [fieldT_len, longL]; omega
          omega
      rw [hGG] at F4
      obtain ⟨a4, c4, rfl⟩ := F4.out.form
      subst hv4
      have q5 := HP.out w4 F4.out.2 5 (.bool cl) rfl
      have q2 := HP.out w4 F4.out.2 2 (.int .i64 mi) rfl
      have hgl := HGL.out.1
      have hsz4 := F4.out.2.size
      clear hGG FR BW q4 HM0
      go_upto_block 2 with (fail)
      go_cut [4] (fun s4 wx => ∃ v, s4 = v ∧ Hid (FlAt w1 wx v (G ++ addConn cl mi)))
      case first =>
        rcases HMI.out with hmi | hmi
        · subst hmi
          cases cl
          · have HAD : Hid (G ++ addConn false 0 = G ++ [(connL, aliveL)]) := rfl
            go_wp2_with (at_builtin; refine wpList_append_lies _ rfl _ _ 29 rfl w1.heap.size 58 i0 _ 2 32 Tryz.underlying29 hi hz0 hz1 hz2 rfl (by decide) _ _ _ rfl (F4.out.1.alloc _) ⟨w4.heap.size, 0, none⟩ 1 1 [.string ⟨connL.toArray⟩, .string ⟨aliveL.toArray⟩] rfl rfl (fun j u hj => cells_new _ _ _ _ _ (by simpa [connL, aliveL] using hj)) (by simp [Value.oneCell']) (by decide) (by simp only [maxLen]; omega) (by omega) (by simp; omega) _ rfl ?_)
            intro gn cap w5 hown hgr hat hlt5
            have F5 : Hid (FlAt w1 w5 (.slice (some ⟨gn, 0, none⟩) (G.length + 1) cap) (G ++ [(connL, aliveL)])) := by
              refine FlAt.push (F4.out.later (below_alloc (Below.refl _ _) (Nat.le_refl _) _)) hown (Chg.grown hgr) fun k hk => ?_
              exact (F4.out.1.lt k hk.symm).1
            clear hown hgr hat hlt5
            go_wp2_with fail
            go_meet
            case rel => exact ⟨_, rfl, by rw [HAD.out]; exact F5⟩
          · have HAD : Hid (G ++ addConn true 0 = G) := by show _ = _; simp [addConn]
            go_wp2_with fail
            go_meet
            case rel => exact ⟨_, rfl, by rw [HAD.out]; exact F4⟩
        · subst hmi
          cases cl
          · have HAD : Hid (G ++ addConn false 1 = G) := by show _ = _; simp [addConn]
            go_wp2_with fail
            go_meet
            case rel => exact ⟨_, rfl, by rw [HAD.out]; exact F4⟩
          · have HAD : Hid (G ++ addConn true 1 = G ++ [(connL, closeL)]) := rfl
            go_wp2_with (at_builtin; refine wpList_append_lies _ rfl _ _ 29 rfl w1.heap.size 58 i0 _ 2 32 Tryz.underlying29 hi hz0 hz1 hz2 rfl (by decide) _ _ _ rfl (F4.out.1.alloc _) ⟨w4.heap.size, 0, none⟩ 1 1 [.string ⟨connL.toArray⟩, .string ⟨closeL.toArray⟩] rfl rfl (fun j u hj => cells_new _ _ _ _ _ (by simpa [connL, closeL] using hj)) (by simp [Value.oneCell']) (by decide) (by simp only [maxLen]; omega) (by omega) (by simp; omega) _ rfl ?_)
            intro gn cap w5 hown hgr hat hlt5
            have F5 : Hid (FlAt w1 w5 (.slice (some ⟨gn, 0, none⟩) (G.length + 1) cap) (G ++ [(connL, closeL)])) := by
              refine FlAt.push (F4.out.later (below_alloc (Below.refl _ _) (Nat.le_refl _) _)) hown (Chg.grown hgr) fun k hk => ?_
              exact (F4.out.1.lt k hk.symm).1
            clear hown hgr hat hlt5
            go_wp2_with fail
            go_meet
            case rel => exact ⟨_, rfl, by rw [HAD.out]; exact F5⟩
      case rest =>
      obtain ⟨v5, hv5, F5⟩ := hcut
      obtain ⟨w5, rfl⟩ : ∃ wx : World, wx = wc := ⟨_, rfl⟩
      obtain ⟨H, hHH⟩ : ∃ H, G ++ addConn cl mi = H := ⟨_, rfl⟩
      have HFS : Hid ((fullV R).fields = H) := by show _ = _; rw [← hHH, ← HGG.out, ← HR.out]; rfl
      have HHL : Hid (H.length ≤ 250000002 ∧ (H.flatMap fieldT).length + me.length + ta.length + bd.length ≤ 1000000100) := by
        rw [← hHH]
        have h2 := HGL.out.2
        have hx : addConn cl mi = [] ∨ addConn cl mi = [(connL, closeL)] ∨ addConn cl mi = [(connL, aliveL)] := by
          unfold addConn
          split <;> split <;> simp
        constructor
        · rw [List.length_append]
          rcases hx with h | h | h <;> rw [h] <;> simp <;> omega
        · rw [List.flatMap_append, List.length_append]
          have hz : ((addConn cl mi).flatMap fieldT).length ≤ 30 := by rcases hx with h | h | h <;> rw [h] <;> decide
          omega
      rw [hHH] at F5
      obtain ⟨a5, c5, rfl⟩ := F5.out.form
      subst hv5
      have hhl := HHL.out.1
      have hhl2 := HHL.out.2
      have Q0 := Lib.hid (HP.out w5 F5.out.2 0 (.string ⟨me.toArray⟩) rfl)
      have Q1 := Lib.hid (HP.out w5 F5.out.2 1 (.string ⟨ta.toArray⟩) rfl)
      have Q2 := Lib.hid (HP.out w5 F5.out.2 2 (.int .i64 mi) rfl)
      have hmok : IntOK mi := by rcases HMI.out with h | h <;> rw [h] <;> exact ⟨by decide, by decide⟩
      have HIT : Hid (∀ W, Below w5.heap.size w5 W → Calls Tryz.prog 37 #[.int .i64 mi] W fun e w' => e = .returned (.string ⟨(Lib.itoa mi).toArray⟩) ∧ Below W.heap.size W w') := fun W hW => itoa_any mi hmok W (HG.out W (HB0.out.trans ((F5.out.2.trans (hW.mono F5.out.2.size)).mono HB0.out.size)))
      have hil := itoa_len30 mi hmok
      obtain ⟨it, hit⟩ : ∃ x, Lib.itoa mi = x := ⟨_, rfl⟩
      have HIQ := Lib.hid hit
      rw [hit] at HIT hil
      clear hit hmok hHH q2 q5 F4 hsz4 hgl HGL
      have s1 : ¬ 9223372036854775807 < me.length + 1 := by omega
      have s2 : ¬ 9223372036854775807 < me.length + 1 + ta.length := by omega
      have s3 : ¬ 9223372036854775807 < me.length + 1 + ta.length + 8 := by omega
      have s4 : ¬ 9223372036854775807 < me.length + 1 + ta.length + 8 + it.length := by omega
      have s5 : ¬ 9223372036854775807 < me.length + 1 + ta.length + 8 + it.length + 2 := by omega
      go_upto_region 16 with (fail)
      refine wp_region_held_drew (S := (fun W : World => Below w5.heap.size w5 W)) (by kernel_rfl) (Below.drew (Below.refl _ _)) (fun hS0 => ?_)
      refine wpAnyH_take (i := 0) (oi := { dst := some 80, op := _, type := _, pos := _, after := _, guard := _ }) (v := ?_) rfl (by kernel_rfl) (by kernel_rfl) (by kernel_rfl) (fun _ _ _ h => h) (Or.inl ⟨by kernel_rfl, ?_⟩) (by assumption) ?_
      rotate_left
      · (intro w hSw; (try dsimp only at hSw); go_simp); all_goals (with_reducible rfl)
      try simp only [Act.put, List.setIfInBounds_toArray, List.set_cons_zero, List.set_cons_succ]
      refine wpAnyH_take (i := 1) (oi := { dst := some 81, op := _, type := _, pos := _, after := _, guard := _ }) (v := ?_) rfl (by kernel_rfl) (by kernel_rfl) (by kernel_rfl) (fun _ _ _ h => h) (Or.inl ⟨by kernel_rfl, ?_⟩) (by assumption) ?_
      rotate_left
      · (intro w hSw; (try dsimp only at hSw); (have h0 := cell_later hSw Q0.out); (have h1 := cell_later hSw Q1.out); (have h2 := cell_later hSw Q2.out); go_simp); all_goals (with_reducible rfl)
      try simp only [Act.put, List.setIfInBounds_toArray, List.set_cons_zero, List.set_cons_succ]
      refine wpAnyH_take (i := 2) (oi := { dst := some 82, op := _, type := _, pos := _, after := _, guard := _ }) (v := ?_) rfl (by kernel_rfl) (by kernel_rfl) (by kernel_rfl) (fun _ _ _ h => h) (Or.inl ⟨by kernel_rfl, ?_⟩) (by assumption) ?_
      rotate_left
      · (intro w hSw; (try dsimp only at hSw); go_simp); all_goals (with_reducible rfl)
      try simp only [Act.put, List.setIfInBounds_toArray, List.set_cons_zero, List.set_cons_succ]
      refine wpAnyH_take (i := 3) (oi := { dst := some 83, op := _, type := _, pos := _, after := _, guard := _ }) (v := ?_) rfl (by kernel_rfl) (by kernel_rfl) (by kernel_rfl) (fun _ _ _ h => h) (Or.inl ⟨by kernel_rfl, ?_⟩) (by assumption) ?_
      rotate_left
      · (intro w hSw; (try dsimp only at hSw); go_simp); all_goals (with_reducible rfl)
      try simp only [Act.put, List.setIfInBounds_toArray, List.set_cons_zero, List.set_cons_succ]
      refine wpAnyH_take (i := 4) (oi := { dst := some 84, op := _, type := _, pos := _, after := _, guard := _ }) (v := ?_) rfl (by kernel_rfl) (by kernel_rfl) (by kernel_rfl) (fun _ _ _ h => h) (Or.inl ⟨by kernel_rfl, ?_⟩) (by assumption) ?_
      rotate_left
      · (intro w hSw; (try dsimp only at hSw); (have h0 := cell_later hSw Q0.out); (have h1 := cell_later hSw Q1.out); (have h2 := cell_later hSw Q2.out); go_simp); all_goals (with_reducible rfl)
      try simp only [Act.put, List.setIfInBounds_toArray, List.set_cons_zero, List.set_cons_succ]
      refine wpAnyH_take (i := 5) (oi := { dst := some 85, op := _, type := _, pos := _, after := _, guard := _ }) (v := ?_) rfl (by kernel_rfl) (by kernel_rfl) (by kernel_rfl) (fun _ _ _ h => h) (Or.inl ⟨by kernel_rfl, ?_⟩) (by assumption) ?_
      rotate_left
      · (intro w hSw; (try dsimp only at hSw); go_simp); all_goals (with_reducible rfl)
      try simp only [Act.put, List.setIfInBounds_toArray, List.set_cons_zero, List.set_cons_succ]
      refine wpAnyH_take (i := 6) (oi := { dst := some 86, op := _, type := _, pos := _, after := _, guard := _ }) (v := ?_) rfl (by kernel_rfl) (by kernel_rfl) (by kernel_rfl) (fun _ _ _ h => h) (Or.inl ⟨by kernel_rfl, ?_⟩) (by assumption) ?_
      rotate_left
      · (intro w hSw; (try dsimp only at hSw); go_simp); all_goals (with_reducible rfl)
      try simp only [Act.put, List.setIfInBounds_toArray, List.set_cons_zero, List.set_cons_succ]
      refine wpAnyH_take (i := 7) (oi := { dst := some 87, op := _, type := _, pos := _, after := _, guard := _ }) (v := ?_) rfl (by kernel_rfl) (by kernel_rfl) (by kernel_rfl) (fun _ _ _ h => h) (Or.inl ⟨by kernel_rfl, ?_⟩) (by assumption) ?_
      rotate_left
      · (intro w hSw; (try dsimp only at hSw); go_simp); all_goals (with_reducible rfl)
      try simp only [Act.put, List.setIfInBounds_toArray, List.set_cons_zero, List.set_cons_succ]
      refine wpAnyH_take (i := 8) (oi := { dst := some 88, op := _, type := _, pos := _, after := _, guard := _ }) (v := ?_) rfl (by kernel_rfl) (by kernel_rfl) (by kernel_rfl) (fun _ _ _ h => h) (Or.inl ⟨by kernel_rfl, ?_⟩) (by assumption) ?_
      rotate_left
      · (intro w hSw; (try dsimp only at hSw); (have h0 := cell_later hSw Q0.out); (have h1 := cell_later hSw Q1.out); (have h2 := cell_later hSw Q2.out); go_simp); all_goals (with_reducible rfl)
      try simp only [Act.put, List.setIfInBounds_toArray, List.set_cons_zero, List.set_cons_succ]
      refine wpAnyH_ready (rs := [9]) (by kernel_rfl) (by simp) ?_
      refine (AllReadyH.cons (o := { dst := some 89, op := _, type := _, pos := _, after := _, guard := _ }) rfl (fun K hK => ?_) AllReadyH.nil)
      rw [if_pos (by kernel_rfl)]
      refine wp_call_go Tryz.func37 (by kernel_rfl) (by kernel_rfl) (by rfl) (HIT.out _ hS0) (by rfl) ?_
      rintro e w' ⟨rfl, hb⟩
      refine ⟨_, rfl, ?_⟩
      refine hK.out _ w' (hS0.trans (hb.mono hS0.size)) (fun hSe => ?_)
      clear hK K
      try simp only [Act.put, List.setIfInBounds_toArray, List.set_cons_zero, List.set_cons_succ]
      refine wpAnyH_take (i := 10) (oi := { dst := some 90, op := _, type := _, pos := _, after := _, guard := _ }) (v := ?_) rfl (by kernel_rfl) (by kernel_rfl) (by kernel_rfl) (fun _ _ _ h => h) (Or.inl ⟨by kernel_rfl, ?_⟩) (by assumption) ?_
      rotate_left
      · (intro w hSw; (try dsimp only at hSw); go_simp); all_goals (with_reducible rfl)
      try simp only [Act.put, List.setIfInBounds_toArray, List.set_cons_zero, List.set_cons_succ]
      refine wpAnyH_take (i := 11) (oi := { dst := some 91, op := _, type := _, pos := _, after := _, guard := _ }) (v := ?_) rfl (by kernel_rfl) (by kernel_rfl) (by kernel_rfl) (fun _ _ _ h => h) (Or.inl ⟨by kernel_rfl, ?_⟩) (by assumption) ?_
      rotate_left
      · (intro w hSw; (try dsimp only at hSw); go_simp); all_goals (with_reducible rfl)
      try simp only [Act.put, List.setIfInBounds_toArray, List.set_cons_zero, List.set_cons_succ]
      refine wpAnyH_take (i := 12) (oi := { dst := some 7, op := _, type := _, pos := _, after := _, guard := _ }) (v := ?_) rfl (by kernel_rfl) (by kernel_rfl) (by kernel_rfl) (fun _ _ _ h => h) (Or.inl ⟨by kernel_rfl, ?_⟩) (by assumption) ?_
      rotate_left
      · (intro w hSw; (try dsimp only at hSw); go_simp); all_goals (with_reducible rfl)
      try simp only [Act.put, List.setIfInBounds_toArray, List.set_cons_zero, List.set_cons_succ]
      refine wpAnyH_done (by kernel_rfl) ?_ _
      have B6 := Lib.hid hSe
      clear hSe
      obtain ⟨w6, rfl⟩ : ∃ wx : World, wx = w' := ⟨_, rfl⟩
      have F6 := Lib.hid (F5.out.later B6.out)
      obtain ⟨T, hT⟩ : ∃ T, askHead R = T := ⟨_, rfl⟩
      have HTT : Hid (me ++ [32] ++ ta ++ http1L ++ it ++ [13, 10] = T) := by show _ = _; rw [← hT, ← HR.out, ← HIQ.out]; rfl
      have HTL : Hid (T.length + (H.flatMap fieldT).length + bd.length ≤ 1000000200) := by
        show _ ≤ _
        rw [← HTT.out]
        simp only [List.length_append, List.length_cons, List.length_nil, http1L]
        omega
      have HAT : Hid (askT R = T ++ H.flatMap fieldT ++ [13, 10] ++ bd) := by show _ = _; unfold askT; rw [hT, HFS.out, ← HR.out]
      have HFV : Hid (fullV R = ⟨me, ta, mi, H, bd, cl⟩) := by show _ = _; rw [← HFS.out, ← HR.out]; rfl
      have htl := HTL.out
      clear hT s1 s2 s3 s4 s5 Q0 Q1 Q2 HIT F5 B6 hil hhl2 HIQ HFS HGG
      go_wp2
      go_loopg [7, 9, 94] H.length (fun gg s7 _ s94 wr => ∃ i : Nat, i ≤ H.length ∧ H.length - i ≤ gg ∧ s94 = .int .i64 i ∧ s7 = .string ⟨(T ++ (H.take i).flatMap fieldT).toArray⟩ ∧ Hid (Below w6.heap.size w6 wr))
      case atStart => exact ⟨0, Nat.zero_le _, by omega, rfl, (by rw [← HTT.out]; exact congrArg Value.string (by apply ByteArray.ext; simp [http1L])), Below.refl _ _⟩
      case round =>
        obtain ⟨i, hin, hg, rfl, rfl, BR⟩ := hrel
        by_cases hlt : i < H.length
        · have hltz : (i : Int) < (H.length : Int) := by omega
          obtain ⟨f, hif⟩ : ∃ f, H[i]? = some f := ⟨_, List.getElem?_eq_getElem hlt⟩
          obtain ⟨a3, c3, he3, _, _, hcc⟩ := (F6.out.later BR.out).pairs (by omega)
          injection he3 with he1 _ he2
          subst he1 he2
          obtain ⟨b, off, rfl, k0, k1⟩ := hcc i f hif
          have HTK : Hid ((H.take (i + 1)).flatMap fieldT = (H.take i).flatMap fieldT ++ fieldT f) := by show _ = _; rw [List.take_add_one, hif, List.flatMap_append]; simp
          have hfl := field_len hif
          obtain ⟨X, hX⟩ : ∃ X, T ++ (H.take i).flatMap fieldT = X := ⟨_, rfl⟩
          have hxl : X.length = T.length + ((H.take i).flatMap fieldT).length := by rw [← hX, List.length_append]
          have HX := Lib.hid hX
          obtain ⟨nm, vl⟩ := f
          simp only at k0 k1 hfl
          rw [hX]
          clear hcc hif hlt hX
          have s1 : ¬ 9223372036854775807 < nm.length + 2 := by omega
          have s2 : ¬ 9223372036854775807 < nm.length + 2 + vl.length := by omega
          have s3 : ¬ 9223372036854775807 < nm.length + 2 + vl.length + 2 := by omega
          have s4 : ¬ 9223372036854775807 < X.length + (nm.length + 2 + vl.length + 2) := by omega
          clear hxl
          go_wp2_with fail
          go_roundg (H.length - (i + 1))
          case measure => omega
          case rel => exact ⟨i + 1, by omega, by omega, by go_num, (by rw [HTK.out, ← List.append_assoc, HX.out]; exact congrArg Value.string (by apply ByteArray.ext; simp [fieldT])), below_alloc BR.out (Nat.le_refl _) _⟩
        · have he : i = H.length := by omega
          subst he
          rw [List.take_length]
          have BX := Lib.hid (F6.out.2.trans (BR.out.mono F6.out.2.size))
          have F7 := Lib.hid (F6.out.later BR.out)
          have q4 := HP.out wr BX.out 4 (.string ⟨bd.toArray⟩) rfl
          obtain ⟨X, hX⟩ : ∃ X, T ++ H.flatMap fieldT = X := ⟨_, rfl⟩
          have hxl : X.length = T.length + (H.flatMap fieldT).length := by rw [← hX, List.length_append]
          rw [hX] at HAT ⊢
          have HXS : Hid ((⟨X.toArray⟩ : ByteArray) ++ (⟨#[13, 10]⟩ ++ ⟨bd.toArray⟩) = ⟨(askT R).toArray⟩) := by show _ = _; rw [HAT.out]; apply ByteArray.ext; simp
          have s1 : ¬ 9223372036854775807 < 2 + bd.length := by omega
          have s2 : ¬ 9223372036854775807 < X.length + (2 + bd.length) := by omega
          clear hxl
          have HNW := Lib.hid (new_any wr (HG.out _ (HB0.out.trans (BX.out.mono HB0.out.size))))
          clear hX HTT F6 BR hlt hin hg HTL
          go_wp2_with fail
          refine HNW.out.mono ?_
          rintro e w7 ⟨rfl, r7, b7⟩
          obtain ⟨rd, hrd⟩ : ∃ x : Nat, wr.heap.size = x := ⟨_, rfl⟩
          have HRD := Lib.hid hrd
          rw [hrd] at r7 ⊢
          have B7W := Lib.hid b7
          have HFE := Lib.hid (feed_any (askT R) r7 rsZ_wf (by have := HLA.out; omega))
          obtain ⟨res, hres⟩ : ∃ x, rsZ.feed (askT R) = x := ⟨_, rfl⟩
          have HWF : Hid (WF (askT R).length (rsZ.feed (askT R)).1) := by
            have := feed_wf (askT R) rsZ 0 rsZ_wf
            rw [Nat.zero_add] at this
            exact this
          have HQF : Hid (∀ q ∈ (rsZ.feed (askT R)).2, q.fields.length ≤ 50) := feed_flds (askT R) rsZ 0 rsZ_wf
          rw [hres] at HFE HWF HQF
          have HBK : Hid (askOK R = (decide (res.2 = [⟨me, ta, mi, H, bd, cl⟩]) && decide (res.1.fault = 0) && decide (res.1.held = 0))) := by
            show _ = _
            rw [HOK2.out, NB.out]
            unfold backOK
            rw [hres, HFV.out]
            rcases HMI.out with h | h <;> rw [h] <;> simp
          have HLB := Lib.hid HLA.out
          obtain ⟨txt, htxt⟩ : ∃ x, askT R = x := ⟨_, rfl⟩
          have HTX := Lib.hid htxt
          rw [htxt] at HFE HXS HWF HLB
          obtain ⟨s8, qs⟩ := res
          simp only at HFE HBK HWF HQF
          clear htxt hres r7 b7 hrd HNW q4 s1 s2 HAT HFV HOK2
          have LR : Hid (∀ b, (ownRd rd) b → wr.heap.size ≤ b) := fun b hb => by rw [show b = rd from hb]; exact Nat.le_of_eq HRD.out
          rw [HXS.out]
          go_wp2_with fail
          refine HFE.out.mono ?_
          rintro e w8 ⟨v8, ms8, K8, rfl, r8, m8, q8, _, _⟩
          obtain ⟨a8, c8, rfl⟩ := q8.form
          have b78 := B7W.out.trans (m8.below B7W.out.size LR.out)
          have B8 := Lib.hid (BX.out.trans (b78.mono BX.out.size))
          have F9 := Lib.hid (F7.out.later b78)
          have Q8 := Lib.hid q8
          have HF8 := Lib.hid (fault_any r8)
          have HH8 := Lib.hid (held_any r8 HWF.out HLB.out)
          clear r8 m8 q8 HFE b78 F7 B7W BX
          by_cases hn1 : qs.length = 1
          case neg =>
            have HE : Hid (askOK R = false) := by
              show _ = _
              rw [HBK.out, decide_eq_false (fun h => hn1 (by rw [h]; rfl))]
              rfl
            have n1 : ((qs.length : Int) == 1) = false := by rw [beq_eq_false_iff_ne]; omega
            have n2 : ((qs.length : Int) != 1) = true := by rw [bne, n1]; rfl
            clear hn1
            go_wp2_with fail
            go_ret2
            exact ⟨by rw [HE.out]; rfl, HB0.out.trans (B8.out.mono HB0.out.size)⟩
          case pos =>
          obtain ⟨q, rfl⟩ := List.length_eq_one_iff.1 hn1
          clear hn1
          by_cases hf0 : s8.fault = 0
          case neg =>
            have HE : Hid (askOK R = false) := by
              show _ = _
              rw [HBK.out, decide_eq_false hf0]
              simp
            have n1 : (s8.fault == 0) = false := by rw [beq_eq_false_iff_ne]; exact hf0
            have n2 : (s8.fault != 0) = true := by rw [bne, n1]; rfl
            go_wp2_with fail
            refine HF8.out.mono ?_
            rintro e w9 ⟨rfl, rfl⟩
            go_wp2_with fail
            go_ret2
            exact ⟨by rw [HE.out]; rfl, HB0.out.trans (B8.out.mono HB0.out.size)⟩
          case pos =>
          rw [hf0] at HF8
          by_cases hh0 : s8.held = 0
          case neg =>
            have HE : Hid (askOK R = false) := by
              show _ = _
              rw [HBK.out, decide_eq_false hh0]
              simp
            have n1 : (s8.held == 0) = false := by rw [beq_eq_false_iff_ne]; exact hh0
            have n2 : (s8.held != 0) = true := by rw [bne, n1]; rfl
            go_wp2_with fail
            refine HF8.out.mono ?_
            rintro e w9 ⟨rfl, rfl⟩
            go_wp2_with fail
            refine HH8.out.mono ?_
            rintro e w9 ⟨rfl, n9, rfl⟩
            go_wp2_with fail
            go_ret2
            exact ⟨by rw [HE.out]; rfl, HB0.out.trans ((belowDrewN B8.out n9).mono HB0.out.size)⟩
          case pos =>
          rw [hh0] at HH8
          have HBQ : Hid (askOK R = decide (q = ⟨me, ta, mi, H, bd, cl⟩)) := by
            show _ = _
            rw [HBK.out, hf0, hh0]
            simp
          clear hf0 hh0 HBK
          go_wp2_with fail
          refine HF8.out.mono ?_
          rintro e w8b ⟨rfl, rfl⟩
          go_wp2_with fail
          refine HH8.out.mono ?_
          rintro e w8c ⟨rfl, n9, rfl⟩
          obtain ⟨w9, hw9⟩ : ∃ x, w8b.drewN n9 = x := ⟨_, rfl⟩
          have b9 : Below w8b.heap.size w8b w9 := by rw [← hw9]; exact belowDrewN (Below.refl _ _) n9
          have B9 := Lib.hid (B8.out.trans (b9.mono B8.out.size))
          have F10 := Lib.hid (F9.out.later b9)
          obtain ⟨ga, ca', vfa, hva, a0, a1, a2, a3, a4, a5', oa, _⟩ := (Q8.out.later b9).at (i := 0) rfl
          injection hva with hva _ ea
          subst hva ea
          simp only [Nat.zero_mul, Nat.zero_add] at a0 a1 a2 a3 a4 a5'
          have hqf := HQF.out q (by simp)
          obtain ⟨av, cv, rfl⟩ := row_form oa
          have PA := pairs_own oa (by omega)
          have HPF := Lib.hid (F10.out.pairs (by omega))
          obtain ⟨qm, qt, qmi, qf, qb, qc⟩ := q
          simp only at a0 a1 a2 a3 a4 a5' PA hqf
          obtain ⟨w10, hw10⟩ : ∃ x, w9.alloc (.cells #[.string ⟨qm.toArray⟩, .string ⟨qt.toArray⟩, .int .i64 qmi, .slice av qf.length cv, .string ⟨qb.toArray⟩, .bool qc] 31) = x := ⟨_, rfl⟩
          have HW10 := Lib.hid hw10
          have b10 : Below w9.heap.size w9 w10 := by rw [← hw10]; exact below_alloc (Below.refl _ _) (Nat.le_refl _) _
          have hbx : w10.heap[w9.heap.size]? = some (.cells #[.string ⟨qm.toArray⟩, .string ⟨qt.toArray⟩, .int .i64 qmi, .slice av qf.length cv, .string ⟨qb.toArray⟩, .bool qc] 31 (0, 0)) := by rw [← hw10]; exact heap_alloc_new _ _
          have B10 := Lib.hid (B9.out.trans (b10.mono B9.out.size))
          have HEQ := Lib.hid (pairsEq_any qf H _ _ w10 (PA.later b10) (HPF.out.later b10))
          rw [hw9]
          clear hw9 hw10 b10 PA oa HPF b9
          go_upto_region 28 with (fail)
          rw [HW10.out]
          clear a0 a1 a2 a3 a4 a5'
          have p0 : w10.cell? ⟨w9.heap.size, 0, none⟩ = some (.string ⟨qm.toArray⟩) := cell_of_heap hbx
          have p1 : w10.cell? ⟨w9.heap.size, 1, none⟩ = some (.string ⟨qt.toArray⟩) := cell_of_heap hbx
          have p2 : w10.cell? ⟨w9.heap.size, 2, none⟩ = some (.int .i64 qmi) := cell_of_heap hbx
          have p3 : w10.cell? ⟨w9.heap.size, 3, none⟩ = some (.slice av qf.length cv) := cell_of_heap hbx
          have p4 : w10.cell? ⟨w9.heap.size, 4, none⟩ = some (.string ⟨qb.toArray⟩) := cell_of_heap hbx
          have p5 : w10.cell? ⟨w9.heap.size, 5, none⟩ = some (.bool qc) := cell_of_heap hbx
          have r0 := HP.out w10 B10.out 0 (.string ⟨me.toArray⟩) rfl
          have r1 := HP.out w10 B10.out 1 (.string ⟨ta.toArray⟩) rfl
          have r2 := HP.out w10 B10.out 2 (.int .i64 mi) rfl
          have r4 := HP.out w10 B10.out 4 (.string ⟨bd.toArray⟩) rfl
          have r5 := HP.out w10 B10.out 5 (.bool cl) rfl
          clear hbx
          by_cases h_meth : qm = me
          case neg =>
            have HE : Hid (askOK R = false) := by
              show _ = _
              rw [HBQ.out, decide_eq_false_iff_not]
              intro h
              injection h with e1 e2 e3 e4 e5 e6
              exact h_meth e1
            have hbf : (qm == me) = false := by rw [beq_eq_false_iff_ne]; exact h_meth
            have hbn : (qm != me) = true := by rw [bne, hbf]; rfl
            go_wp2_with fail
            go_ret2
            exact ⟨by rw [HE.out]; rfl, HB0.out.trans (B10.out.mono HB0.out.size)⟩
          have HH1 := Lib.hid h_meth
          have ht1 : (qm == me) = true := by rw [beq_iff_eq]; exact h_meth
          have hn1 : (qm != me) = false := by rw [bne, ht1]; rfl
          clear h_meth
          by_cases h_target : qt = ta
          case neg =>
            have HE : Hid (askOK R = false) := by
              show _ = _
              rw [HBQ.out, decide_eq_false_iff_not]
              intro h
              injection h with e1 e2 e3 e4 e5 e6
              exact h_target e2
            have hbf : (qt == ta) = false := by rw [beq_eq_false_iff_ne]; exact h_target
            have hbn : (qt != ta) = true := by rw [bne, hbf]; rfl
            go_wp2_with fail
            go_ret2
            exact ⟨by rw [HE.out]; rfl, HB0.out.trans (B10.out.mono HB0.out.size)⟩
          have HH2 := Lib.hid h_target
          have ht2 : (qt == ta) = true := by rw [beq_iff_eq]; exact h_target
          have hn2 : (qt != ta) = false := by rw [bne, ht2]; rfl
          clear h_target
          by_cases h_minor : qmi = mi
          case neg =>
            have HE : Hid (askOK R = false) := by
              show _ = _
              rw [HBQ.out, decide_eq_false_iff_not]
              intro h
              injection h with e1 e2 e3 e4 e5 e6
              exact h_minor e3
            have hbf : (qmi == mi) = false := by rw [beq_eq_false_iff_ne]; exact h_minor
            have hbn : (qmi != mi) = true := by rw [bne, hbf]; rfl
            go_wp2_with fail
            go_ret2
            exact ⟨by rw [HE.out]; rfl, HB0.out.trans (B10.out.mono HB0.out.size)⟩
          have HH3 := Lib.hid h_minor
          have ht3 : (qmi == mi) = true := by rw [beq_iff_eq]; exact h_minor
          have hn3 : (qmi != mi) = false := by rw [bne, ht3]; rfl
          clear h_minor
          by_cases h_body : qb = bd
          case neg =>
            have HE : Hid (askOK R = false) := by
              show _ = _
              rw [HBQ.out, decide_eq_false_iff_not]
              intro h
              injection h with e1 e2 e3 e4 e5 e6
              exact h_body e5
            have hbf : (qb == bd) = false := by rw [beq_eq_false_iff_ne]; exact h_body
            have hbn : (qb != bd) = true := by rw [bne, hbf]; rfl
            go_wp2_with fail
            go_ret2
            exact ⟨by rw [HE.out]; rfl, HB0.out.trans (B10.out.mono HB0.out.size)⟩
          have HH5 := Lib.hid h_body
          have ht5 : (qb == bd) = true := by rw [beq_iff_eq]; exact h_body
          have hn5 : (qb != bd) = false := by rw [bne, ht5]; rfl
          clear h_body
          by_cases h_close : qc = cl
          case neg =>
            have HE : Hid (askOK R = false) := by
              show _ = _
              rw [HBQ.out, decide_eq_false_iff_not]
              intro h
              injection h with e1 e2 e3 e4 e5 e6
              exact h_close e6
            have hbf : (qc == cl) = false := by rw [beq_eq_false_iff_ne]; exact h_close
            have hbn : (qc != cl) = true := by rw [bne, hbf]; rfl
            go_wp2_with fail
            go_ret2
            exact ⟨by rw [HE.out]; rfl, HB0.out.trans (B10.out.mono HB0.out.size)⟩
          have HH6 := Lib.hid h_close
          have ht6 : (qc == cl) = true := by rw [beq_iff_eq]; exact h_close
          have hn6 : (qc != cl) = false := by rw [bne, ht6]; rfl
          clear h_close
          have HBF : Hid (askOK R = decide (qf = H)) := by
            show _ = _
            rw [HBQ.out, HH1.out, HH2.out, HH3.out, HH5.out, HH6.out]
            simp
          go_wp2_with fail
          refine HEQ.out.mono ?_
          rintro e w11 ⟨rfl, b11⟩
          have B11 := Lib.hid (B10.out.trans (b11.mono B10.out.size))
          by_cases hq : qf = H
          · have HE : Hid (askOK R = true) := by show _ = _; rw [HBF.out, decide_eq_true hq]
            have hd : decide (qf = H) = true := decide_eq_true hq
            rw [hd]
            clear hq hd b11
            go_wp2_with fail
            go_ret2
            exact ⟨by rw [HE.out, HTX.out]; rfl, HB0.out.trans (B11.out.mono HB0.out.size)⟩
          · have HE : Hid (askOK R = false) := by show _ = _; rw [HBF.out, decide_eq_false hq]
            have hd : decide (qf = H) = false := decide_eq_false hq
            rw [hd]
            clear hq hd b11
            go_wp2_with fail
            go_ret2
            exact ⟨by rw [HE.out]; rfl, HB0.out.trans (B11.out.mono HB0.out.size)⟩
end Go.Proofs.YtdilmefeofdkmaaGreatDoor
