/-
  WIRE: the document's Ask. (Printed by wip/gen/wxask.py.)
-/
import Derived.Test.YtdilmefeofdkmaaGreatDoorSm33
import Derived.Deep.CutBlock
namespace Go.Proofs.YtdilmefeofdkmaaGreatDoor
open Go.RowKit

/-- what the document's Ask answers -/
def RAskOut (r : ReqV) (w : World) (e : Ending) (w' : World) : Prop := (∃ t : ByteArray, e = .returned (.tuple #[.string t, .bool (askOK r)]) ∧ (askOK r = true → t = ⟨(askT r).toArray⟩)) ∧ Below w.heap.size w w'

set_option maxHeartbeats 16000000 in
set_option maxRecDepth 100000 in
theorem rAsk_any (r : ReqV) (vf : Value) (w : World) (hG : Glob w) (hF : PairsAt w vf r.fields) (hl : (askT r).length ≤ 1000000000) :
    Calls Tryz.prog 32 #[reqAgg r vf] w (RAskOut r w) := by
  obtain ⟨i0, hi, hz0, hz1, hz2⟩ := info_pair
  have HG : Hid (∀ W, Below w.heap.size w W → Glob W) := fun W hW => hG.later hW
  have HLT : Hid ((r.fields.flatMap fieldT).length + r.meth.length + r.target.length + r.body.length ≤ 1000000000) := by
    show _ ≤ _
    refine Nat.le_trans ?_ hl
    unfold askT askHead fullV
    simp only [List.length_append, List.flatMap_append]
    omega
  have HOK : Hid (askOK r = ((r.minor == 0 || r.minor == 1) && !r.fields.any keptB && backOK r)) := rfl
  obtain ⟨a, c, hv, hfc, hfl, hcc⟩ := hF
  have HC := Lib.hid hcc
  obtain ⟨R, hR⟩ : ∃ R, r = R := ⟨_, rfl⟩
  have HR := Lib.hid hR
  obtain ⟨me, ta, mi, fs, bd, cl⟩ := r
  rw [hR] at HOK
  simp only at HLT hfl hfc hv HC HOK
  subst hv
  show Calls _ _ #[.agg #[.string ⟨me.toArray⟩, .string ⟨ta.toArray⟩, .int .i64 mi, .slice a fs.length c, .string ⟨bd.toArray⟩, .bool cl]] _ _
  rw [hR]
  have HOK2 : Hid (askOK R = ((mi == 0 || mi == 1) && !fs.any keptB && backOK R)) := by show _ = _; rw [HOK.out, ← hR]
  have HLA := Lib.hid hl
  rw [hR] at HLA
  clear hG hl hR HOK hcc
  obtain ⟨w1, hw1⟩ : ∃ w1, w.alloc (.cells #[.string ⟨me.toArray⟩, .string ⟨ta.toArray⟩, .int .i64 mi, .slice a fs.length c, .string ⟨bd.toArray⟩, .bool cl] 31) = w1 := ⟨_, rfl⟩
  have HB0 : Hid (Below w.heap.size w w1) := by rw [← hw1]; exact below_alloc (Below.refl _ _) (Nat.le_refl _) _
  have HBX : Hid (w1.heap[w.heap.size]? = some (.cells #[.string ⟨me.toArray⟩, .string ⟨ta.toArray⟩, .int .i64 mi, .slice a fs.length c, .string ⟨bd.toArray⟩, .bool cl] 31 (0, 0))) := by show _ = _; rw [← hw1]; exact heap_alloc_new _ _
  have HP : Hid (∀ W, Below w1.heap.size w1 W → ∀ (k : Nat) v, (#[Value.string ⟨me.toArray⟩, .string ⟨ta.toArray⟩, .int .i64 mi, .slice a fs.length c, .string ⟨bd.toArray⟩, .bool cl] : Array Value)[k]? = some v → W.cell? ⟨w.heap.size, k, none⟩ = some v) := fun W hW k v hk => by
    refine cell_later hW ?_
    simp only [World.cell?, HBX.out]
    exact hk
  have q2 := HP.out w1 (Below.refl _ _) 2 (.int .i64 mi) rfl
  have HW1 := Lib.hid hw1
  clear hw1
  go_enter Tryz.func32, Tryz.ntmps32
  go_upto_region 1 with (fail)
  rw [HW1.out]
  by_cases hmi : mi = 0 ∨ mi = 1
  case neg =>
    have n0 : (mi == 0) = false := by rw [beq_eq_false_iff_ne]; exact fun h => hmi (.inl h)
    have n1 : (mi == 1) = false := by rw [beq_eq_false_iff_ne]; exact fun h => hmi (.inr h)
    have n2 : (mi != 0) = true := by rw [bne, n0]; rfl
    have n3 : (mi != 1) = true := by rw [bne, n1]; rfl
    have HE : Hid (askOK R = false) := by show _ = _; rw [HOK2.out, n0, n1]; rfl
    clear hmi
    go_wp2_with fail
    go_ret2
    exact ⟨⟨_, by rw [HE.out]; rfl, fun h => by rw [HE.out] at h; cases h⟩, HB0.out⟩
  case pos =>
  go_cut [18] (fun sx wx => sx = .bool false ∧ wx = w1)
  case first =>
    rcases hmi with rfl | rfl
    · go_wp2_with fail
      go_meet
      exact ⟨rfl, rfl⟩
    · go_wp2_with fail
      go_meet
      exact ⟨rfl, rfl⟩
  case rest =>
  obtain ⟨rfl, rfl⟩ := hcut
  obtain ⟨w1, rfl⟩ : ∃ wx : World, wx = wc := ⟨_, rfl⟩
  have HMI := Lib.hid hmi
  obtain ⟨mn, hmn, hmn1⟩ : ∃ mn : Nat, mi = (mn : Int) ∧ mn ≤ 1 := by
    rcases hmi with h | h
    · exact ⟨0, h, by omega⟩
    · exact ⟨1, h, by omega⟩
  clear hmi
  have hf4 := fields_len fs
  have hlt0 := HLT.out
  have Q0 := Lib.hid (HP.out w1 (Below.refl _ _) 0 (.string ⟨me.toArray⟩) rfl)
  have Q1 := Lib.hid (HP.out w1 (Below.refl _ _) 1 (.string ⟨ta.toArray⟩) rfl)
  have Q2 := Lib.hid (HP.out w1 (Below.refl _ _) 2 (.int .i64 mi) rfl)
  have hil : (Lib.itoa mi).length ≤ 30 := by rw [hmn]; exact itoa_len30 _ ⟨by omega, by omega⟩
  have HDM : Hid (∀ W, Calls Tryz.prog 44 #[.int .i64 mi] W fun e w' => e = .returned (.string ⟨(Lib.itoa mi).toArray⟩) ∧ Below W.heap.size W w') := fun W => by
    have := digits_any mn W (by omega)
    rw [← hmn] at this
    refine this.mono ?_
    rintro e w' ⟨rfl, m, rfl⟩
    exact ⟨by rw [hmn, Lib.itoa_nonneg], belowDrewN (Below.refl _ _) m⟩
  clear hmn hmn1
  obtain ⟨T, hT⟩ : ∃ T, askHead R = T := ⟨_, rfl⟩
  obtain ⟨it, hit⟩ : ∃ x, Lib.itoa mi = x := ⟨_, rfl⟩
  have HTT : Hid (me ++ [32] ++ ta ++ http1L ++ it ++ [13, 10] = T) := by show _ = _; rw [← hT, ← HR.out, ← hit]; rfl
  rw [hit] at HDM hil
  have HTL : Hid (T.length + (fs.flatMap fieldT).length + bd.length ≤ 1000000100) := by
    show _ ≤ _
    rw [← HTT.out]
    simp only [List.length_append, List.length_cons, List.length_nil, http1L]
    omega
  have HAT : Hid (askT R = T ++ (fullV R).fields.flatMap fieldT ++ [13, 10] ++ bd) := by show _ = _; unfold askT; rw [hT, ← HR.out]
  have s1 : ¬ 9223372036854775807 < me.length + 1 := by omega
  have s2 : ¬ 9223372036854775807 < me.length + 1 + ta.length := by omega
  have s3 : ¬ 9223372036854775807 < me.length + 1 + ta.length + 8 := by omega
  have s4 : ¬ 9223372036854775807 < me.length + 1 + ta.length + 8 + it.length := by omega
  have s5 : ¬ 9223372036854775807 < me.length + 1 + ta.length + 8 + it.length + 2 := by omega
  clear hit hT q2
  go_upto_region 3 with (fail)
  refine wp_region_held_drew (S := (fun W : World => Below w1.heap.size w1 W)) (by kernel_rfl) (Below.drew (Below.refl _ _)) (fun hS0 => ?_)
  refine wpAnyH_take (i := 0) (oi := { dst := some 19, op := _, type := _, pos := _, after := _, guard := _ }) (v := ?_) rfl (by kernel_rfl) (by kernel_rfl) (by kernel_rfl) (fun _ _ _ h => h) (Or.inl ⟨by kernel_rfl, ?_⟩) (by assumption) ?_
  rotate_left
  · (intro w hSw; (try dsimp only at hSw); go_simp); all_goals (with_reducible rfl)
  try simp only [Act.put, List.setIfInBounds_toArray, List.set_cons_zero, List.set_cons_succ]
  refine wpAnyH_take (i := 1) (oi := { dst := some 20, op := _, type := _, pos := _, after := _, guard := _ }) (v := ?_) rfl (by kernel_rfl) (by kernel_rfl) (by kernel_rfl) (fun _ _ _ h => h) (Or.inl ⟨by kernel_rfl, ?_⟩) (by assumption) ?_
  rotate_left
  · (intro w hSw; (try dsimp only at hSw); (have h0 := cell_later hSw Q0.out); (have h1 := cell_later hSw Q1.out); (have h2 := cell_later hSw Q2.out); go_simp); all_goals (with_reducible rfl)
  try simp only [Act.put, List.setIfInBounds_toArray, List.set_cons_zero, List.set_cons_succ]
  refine wpAnyH_take (i := 2) (oi := { dst := some 21, op := _, type := _, pos := _, after := _, guard := _ }) (v := ?_) rfl (by kernel_rfl) (by kernel_rfl) (by kernel_rfl) (fun _ _ _ h => h) (Or.inl ⟨by kernel_rfl, ?_⟩) (by assumption) ?_
  rotate_left
  · (intro w hSw; (try dsimp only at hSw); go_simp); all_goals (with_reducible rfl)
  try simp only [Act.put, List.setIfInBounds_toArray, List.set_cons_zero, List.set_cons_succ]
  refine wpAnyH_take (i := 3) (oi := { dst := some 22, op := _, type := _, pos := _, after := _, guard := _ }) (v := ?_) rfl (by kernel_rfl) (by kernel_rfl) (by kernel_rfl) (fun _ _ _ h => h) (Or.inl ⟨by kernel_rfl, ?_⟩) (by assumption) ?_
  rotate_left
  · (intro w hSw; (try dsimp only at hSw); go_simp); all_goals (with_reducible rfl)
  try simp only [Act.put, List.setIfInBounds_toArray, List.set_cons_zero, List.set_cons_succ]
  refine wpAnyH_take (i := 4) (oi := { dst := some 23, op := _, type := _, pos := _, after := _, guard := _ }) (v := ?_) rfl (by kernel_rfl) (by kernel_rfl) (by kernel_rfl) (fun _ _ _ h => h) (Or.inl ⟨by kernel_rfl, ?_⟩) (by assumption) ?_
  rotate_left
  · (intro w hSw; (try dsimp only at hSw); (have h0 := cell_later hSw Q0.out); (have h1 := cell_later hSw Q1.out); (have h2 := cell_later hSw Q2.out); go_simp); all_goals (with_reducible rfl)
  try simp only [Act.put, List.setIfInBounds_toArray, List.set_cons_zero, List.set_cons_succ]
  refine wpAnyH_take (i := 5) (oi := { dst := some 24, op := _, type := _, pos := _, after := _, guard := _ }) (v := ?_) rfl (by kernel_rfl) (by kernel_rfl) (by kernel_rfl) (fun _ _ _ h => h) (Or.inl ⟨by kernel_rfl, ?_⟩) (by assumption) ?_
  rotate_left
  · (intro w hSw; (try dsimp only at hSw); go_simp); all_goals (with_reducible rfl)
  try simp only [Act.put, List.setIfInBounds_toArray, List.set_cons_zero, List.set_cons_succ]
  refine wpAnyH_take (i := 6) (oi := { dst := some 25, op := _, type := _, pos := _, after := _, guard := _ }) (v := ?_) rfl (by kernel_rfl) (by kernel_rfl) (by kernel_rfl) (fun _ _ _ h => h) (Or.inl ⟨by kernel_rfl, ?_⟩) (by assumption) ?_
  rotate_left
  · (intro w hSw; (try dsimp only at hSw); go_simp); all_goals (with_reducible rfl)
  try simp only [Act.put, List.setIfInBounds_toArray, List.set_cons_zero, List.set_cons_succ]
  refine wpAnyH_take (i := 7) (oi := { dst := some 26, op := _, type := _, pos := _, after := _, guard := _ }) (v := ?_) rfl (by kernel_rfl) (by kernel_rfl) (by kernel_rfl) (fun _ _ _ h => h) (Or.inl ⟨by kernel_rfl, ?_⟩) (by assumption) ?_
  rotate_left
  · (intro w hSw; (try dsimp only at hSw); go_simp); all_goals (with_reducible rfl)
  try simp only [Act.put, List.setIfInBounds_toArray, List.set_cons_zero, List.set_cons_succ]
  refine wpAnyH_take (i := 8) (oi := { dst := some 27, op := _, type := _, pos := _, after := _, guard := _ }) (v := ?_) rfl (by kernel_rfl) (by kernel_rfl) (by kernel_rfl) (fun _ _ _ h => h) (Or.inl ⟨by kernel_rfl, ?_⟩) (by assumption) ?_
  rotate_left
  · (intro w hSw; (try dsimp only at hSw); (have h0 := cell_later hSw Q0.out); (have h1 := cell_later hSw Q1.out); (have h2 := cell_later hSw Q2.out); go_simp); all_goals (with_reducible rfl)
  try simp only [Act.put, List.setIfInBounds_toArray, List.set_cons_zero, List.set_cons_succ]
  refine wpAnyH_ready (rs := [9]) (by kernel_rfl) (by simp) ?_
  refine (AllReadyH.cons (o := { dst := some 28, op := _, type := _, pos := _, after := _, guard := _ }) rfl (fun K hK => ?_) AllReadyH.nil)
  rw [if_pos (by kernel_rfl)]
  refine wp_call_go Tryz.func44 (by kernel_rfl) (by kernel_rfl) (by rfl) (HDM.out _) (by rfl) ?_
  rintro e w' ⟨rfl, hb⟩
  refine ⟨_, rfl, ?_⟩
  refine hK.out _ w' (hS0.trans (hb.mono hS0.size)) (fun hSe => ?_)
  clear hK K
  try simp only [Act.put, List.setIfInBounds_toArray, List.set_cons_zero, List.set_cons_succ]
  refine wpAnyH_take (i := 10) (oi := { dst := some 29, op := _, type := _, pos := _, after := _, guard := _ }) (v := ?_) rfl (by kernel_rfl) (by kernel_rfl) (by kernel_rfl) (fun _ _ _ h => h) (Or.inl ⟨by kernel_rfl, ?_⟩) (by assumption) ?_
  rotate_left
  · (intro w hSw; (try dsimp only at hSw); go_simp); all_goals (with_reducible rfl)
  try simp only [Act.put, List.setIfInBounds_toArray, List.set_cons_zero, List.set_cons_succ]
  refine wpAnyH_take (i := 11) (oi := { dst := some 30, op := _, type := _, pos := _, after := _, guard := _ }) (v := ?_) rfl (by kernel_rfl) (by kernel_rfl) (by kernel_rfl) (fun _ _ _ h => h) (Or.inl ⟨by kernel_rfl, ?_⟩) (by assumption) ?_
  rotate_left
  · (intro w hSw; (try dsimp only at hSw); go_simp); all_goals (with_reducible rfl)
  try simp only [Act.put, List.setIfInBounds_toArray, List.set_cons_zero, List.set_cons_succ]
  refine wpAnyH_take (i := 12) (oi := { dst := some 4, op := _, type := _, pos := _, after := _, guard := _ }) (v := ?_) rfl (by kernel_rfl) (by kernel_rfl) (by kernel_rfl) (fun _ _ _ h => h) (Or.inl ⟨by kernel_rfl, ?_⟩) (by assumption) ?_
  rotate_left
  · (intro w hSw; (try dsimp only at hSw); go_simp); all_goals (with_reducible rfl)
  try simp only [Act.put, List.setIfInBounds_toArray, List.set_cons_zero, List.set_cons_succ]
  refine wpAnyH_done (by kernel_rfl) ?_ _
  have B3 := Lib.hid hSe
  clear hSe
  obtain ⟨w3, rfl⟩ : ∃ wx : World, wx = w' := ⟨_, rfl⟩
  clear s1 s2 s3 s4 s5 HDM Q0 Q1 Q2 hil
  have htl := HTL.out
  have q0 := HP.out w3 B3.out 0 (.string ⟨me.toArray⟩) rfl
  have q1 := HP.out w3 B3.out 1 (.string ⟨ta.toArray⟩) rfl
  have q2 := HP.out w3 B3.out 2 (.int .i64 mi) rfl
  have q3 := HP.out w3 B3.out 3 (.slice a fs.length c) rfl
  have q4 := HP.out w3 B3.out 4 (.string ⟨bd.toArray⟩) rfl
  have q5 := HP.out w3 B3.out 5 (.bool cl) rfl
  go_upto_region 6 with (fail)
  obtain ⟨B, hB⟩ : ∃ x, w3.heap.size = x := ⟨_, rfl⟩
  obtain ⟨w4, hw4⟩ : ∃ x, w3.alloc (.cells #[.string ⟨me.toArray⟩, .string ⟨ta.toArray⟩, .int .i64 mi, .slice none 0 0, .string ⟨bd.toArray⟩, .bool cl] 31) = x := ⟨_, rfl⟩
  have C0 : Hid (CopyAt w1 w4 B me ta mi bd cl (.slice none 0 0) []) := by
    refine ⟨by rw [← hw4, ← hB]; exact heap_alloc_new _ _, World.ownsRow_nil _ _ _ _, ?_, by rw [← hB]; exact B3.out.size⟩
    rw [← hw4]
    exact below_alloc B3.out (Nat.le_refl _) _
  rw [hw4, hB]
  clear hw4 q0 q1 q2 q3 q4 q5
  go_wp2
  go_loopg [4, 6, 7] fs.length (fun gg s4 s6 _ wr => ∃ (i : Nat) (vC : Value), i ≤ fs.length ∧ fs.length - i ≤ gg ∧ s6 = .int .i64 i ∧ s4 = .string ⟨(T ++ (fs.take i).flatMap fieldT).toArray⟩ ∧ Hid (CopyAt w1 wr B me ta mi bd cl vC (fs.take i)) ∧ Hid ((fs.take i).any keptB = false))
  case atStart => exact ⟨0, _, Nat.zero_le _, by omega, rfl, (by rw [← HTT.out]; exact congrArg Value.string (by apply ByteArray.ext; simp [http1L])), C0, rfl⟩
  case round =>
    obtain ⟨i, vC, hin, hg, rfl, rfl, CW, NB⟩ := hrel
    have q3 := HP.out wr CW.out.bel 3 (.slice a fs.length c) rfl
    by_cases hlt : i < fs.length
    · have hltz : (i : Int) < (fs.length : Int) := by omega
      obtain ⟨f, hif⟩ : ∃ f, fs[i]? = some f := ⟨_, List.getElem?_eq_getElem hlt⟩
      obtain ⟨b, off, rfl, k0, k1⟩ := HC.out i f hif
      have HNB : Hid (keptB f = false → Hid ((fs.take (i + 1)).any keptB = false)) := fun hbf => by show _ = _; rw [List.take_add_one, hif, List.any_append, NB.out]; simp [hbf]
      have HNO : Hid (keptB f = true → askOK R = false) := fun hbf => by
        rw [HOK2.out, List.any_eq_true.2 ⟨f, List.mem_of_getElem? hif, hbf⟩]
        simp
      have HKB : Hid (keptB f = (f.1 == longL || f.1 == codingL || f.1 == connL)) := rfl
      have HTI : Hid (fs.take (i + 1) = fs.take i ++ [f]) := by show _ = _; rw [List.take_add_one, hif]; rfl
      have hfl2 := field_len hif
      have hti : (fs.take i).length ≤ 250000000 := by rw [List.length_take]; omega
      have HTIL : Hid ((fs.take i).length = i) := by show _ = _; rw [List.length_take]; omega
      obtain ⟨X, hX⟩ : ∃ X, T ++ (fs.take i).flatMap fieldT = X := ⟨_, rfl⟩
      have hxl : X.length = T.length + ((fs.take i).flatMap fieldT).length := by rw [← hX, List.length_append]
      have HX := Lib.hid hX
      obtain ⟨nm, vl⟩ := f
      simp only at HKB k0 k1 hfl2
      rw [hX]
      have K0 := Lib.hid k0
      have K1 := Lib.hid k1
      have e0 := cell_later (HB0.out.trans (CW.out.bel.mono HB0.out.size)) K0.out
      have e1 := cell_later (HB0.out.trans (CW.out.bel.mono HB0.out.size)) K1.out
      have s1 : ¬ 9223372036854775807 < X.length + nm.length := by omega
      have s2 : ¬ 9223372036854775807 < X.length + nm.length + 2 := by omega
      have s3 : ¬ 9223372036854775807 < X.length + nm.length + 2 + vl.length := by omega
      have s4 : ¬ 9223372036854775807 < X.length + nm.length + 2 + vl.length + 2 := by omega
      clear hif hlt hX k0 k1 hxl hfl2
      by_cases h1 : nm = longL
      · have HE := HNO.out (by rw [HKB.out, h1]; rfl)
        subst h1
        unfold longL at e0
        go_wp2_with fail
        go_ret2
        exact ⟨⟨_, by rw [HE]; rfl, fun h => by rw [HE] at h; cases h⟩, HB0.out.trans (CW.out.bel.mono HB0.out.size)⟩
      · by_cases h2 : nm = codingL
        · have HE := HNO.out (by rw [HKB.out, h2]; rfl)
          subst h2
          unfold codingL at e0
          go_wp2_with fail
          go_ret2
          exact ⟨⟨_, by rw [HE]; rfl, fun h => by rw [HE] at h; cases h⟩, HB0.out.trans (CW.out.bel.mono HB0.out.size)⟩
        · by_cases h3 : nm = connL
          · have HE := HNO.out (by rw [HKB.out, h3]; rfl)
            subst h3
            unfold connL at e0
            go_wp2_with fail
            go_ret2
            exact ⟨⟨_, by rw [HE]; rfl, fun h => by rw [HE] at h; cases h⟩, HB0.out.trans (CW.out.bel.mono HB0.out.size)⟩
          · have HN := Lib.hid (HNB.out (by rw [HKB.out]; simp [h1, h2, h3]))
            have x1 : (nm == [99, 111, 110, 116, 101, 110, 116, 45, 108, 101, 110, 103, 116, 104]) = false := by rw [beq_eq_false_iff_ne]; exact h1
            have x2 : (nm == [116, 114, 97, 110, 115, 102, 101, 114, 45, 101, 110, 99, 111, 100, 105, 110, 103]) = false := by rw [beq_eq_false_iff_ne]; exact h2
            have x3 : (nm == [99, 111, 110, 110, 101, 99, 116, 105, 111, 110]) = false := by rw [beq_eq_false_iff_ne]; exact h3
            have y1 : ¬ nm = [99, 111, 110, 116, 101, 110, 116, 45, 108, 101, 110, 103, 116, 104] := h1
            have y2 : ¬ nm = [116, 114, 97, 110, 115, 102, 101, 114, 45, 101, 110, 99, 111, 100, 105, 110, 103] := h2
            have y3 : ¬ nm = [99, 111, 110, 110, 101, 99, 116, 105, 111, 110] := h3
            clear h1 h2 h3
            as_aux_lemma =>
              go_upto_region 12 with (fail)
              clear q3 e0 e1
              refine wp_region_heldL_drew (S := (fun W : World => Below w1.heap.size w1 W ∧ W.cell? ⟨B, 3, none⟩ = some vC)) 10 (by kernel_rfl) (by exact ⟨(CW.out.later (Below.refl _ _).drew).bel, cell_of_heap (CW.out.later (Below.refl _ _).drew).box⟩) (fun hS0 => ?_)
              have Cw0 := Lib.hid (CW.out.later (Below.refl _ _).drew)
              generalize wr.drew = w0 at Cw0 hS0 ⊢
              clear CW
              refine wpAnyL_take (i := 0) (oi := { dst := some 56, op := _, type := _, pos := _, after := _, guard := _ }) (v := ?_) rfl (by kernel_rfl) (by kernel_rfl) (by kernel_rfl) (by kernel_rfl) (fun _ _ _ h => h) (Or.inl ⟨by kernel_rfl, ?_⟩) (by assumption) ?_
              rotate_left
              · (intro w hSw; (try dsimp only at hSw); go_simp); all_goals (with_reducible rfl)
              try simp only [Act.put, List.setIfInBounds_toArray, List.set_cons_zero, List.set_cons_succ]
              refine wpAnyL_take (i := 1) (oi := { dst := some 57, op := _, type := _, pos := _, after := _, guard := _ }) (v := ?_) rfl (by kernel_rfl) (by kernel_rfl) (by kernel_rfl) (by kernel_rfl) (fun _ _ _ h => h) (Or.inl ⟨by kernel_rfl, ?_⟩) (by assumption) ?_
              rotate_left
              · (intro w hSw; (try dsimp only at hSw); (have e0 := cell_later (HB0.out.trans (hSw.1.mono HB0.out.size)) K0.out; have e1 := cell_later (HB0.out.trans (hSw.1.mono HB0.out.size)) K1.out; have ev := hSw.2; have hp := HP.out w hSw.1 3 (.slice (some ⟨b, off, none⟩) fs.length c) rfl; have hp4 := HP.out w hSw.1 4 (.string ⟨bd.toArray⟩) rfl; clear hSw); go_simp); all_goals (with_reducible rfl)
              try simp only [Act.put, List.setIfInBounds_toArray, List.set_cons_zero, List.set_cons_succ]
              refine wpAnyL_take (i := 2) (oi := { dst := some 58, op := _, type := _, pos := _, after := _, guard := _ }) (v := ?_) rfl (by kernel_rfl) (by kernel_rfl) (by kernel_rfl) (by kernel_rfl) (fun _ _ _ h => h) (Or.inl ⟨by kernel_rfl, ?_⟩) (by assumption) ?_
              rotate_left
              · (intro w hSw; (try dsimp only at hSw); go_simp); all_goals (with_reducible rfl)
              try simp only [Act.put, List.setIfInBounds_toArray, List.set_cons_zero, List.set_cons_succ]
              refine wpAnyL_take (i := 3) (oi := { dst := some 59, op := _, type := _, pos := _, after := _, guard := _ }) (v := ?_) rfl (by kernel_rfl) (by kernel_rfl) (by kernel_rfl) (by kernel_rfl) (fun _ _ _ h => h) (Or.inl ⟨by kernel_rfl, ?_⟩) (by assumption) ?_
              rotate_left
              · (intro w hSw; (try dsimp only at hSw); (have e0 := cell_later (HB0.out.trans (hSw.1.mono HB0.out.size)) K0.out; have e1 := cell_later (HB0.out.trans (hSw.1.mono HB0.out.size)) K1.out; have ev := hSw.2; have hp := HP.out w hSw.1 3 (.slice (some ⟨b, off, none⟩) fs.length c) rfl; have hp4 := HP.out w hSw.1 4 (.string ⟨bd.toArray⟩) rfl; clear hSw); go_simp); all_goals (with_reducible rfl)
              try simp only [Act.put, List.setIfInBounds_toArray, List.set_cons_zero, List.set_cons_succ]
              refine wpAnyL_take (i := 4) (oi := { dst := some 60, op := _, type := _, pos := _, after := _, guard := _ }) (v := ?_) rfl (by kernel_rfl) (by kernel_rfl) (by kernel_rfl) (by kernel_rfl) (fun _ _ _ h => h) (Or.inl ⟨by kernel_rfl, ?_⟩) (by assumption) ?_
              rotate_left
              · (intro w hSw; (try dsimp only at hSw); go_simp); all_goals (with_reducible rfl)
              try simp only [Act.put, List.setIfInBounds_toArray, List.set_cons_zero, List.set_cons_succ]
              refine wpAnyL_take (i := 5) (oi := { dst := some 61, op := _, type := _, pos := _, after := _, guard := _ }) (v := ?_) rfl (by kernel_rfl) (by kernel_rfl) (by kernel_rfl) (by kernel_rfl) (fun _ _ _ h => h) (Or.inl ⟨by kernel_rfl, ?_⟩) (by assumption) ?_
              rotate_left
              · (intro w hSw; (try dsimp only at hSw); go_simp); all_goals (with_reducible rfl)
              try simp only [Act.put, List.setIfInBounds_toArray, List.set_cons_zero, List.set_cons_succ]
              refine wpAnyL_take (i := 6) (oi := { dst := some 62, op := _, type := _, pos := _, after := _, guard := _ }) (v := ?_) rfl (by kernel_rfl) (by kernel_rfl) (by kernel_rfl) (by kernel_rfl) (fun _ _ _ h => h) (Or.inl ⟨by kernel_rfl, ?_⟩) (by assumption) ?_
              rotate_left
              · (intro w hSw; (try dsimp only at hSw); (have e0 := cell_later (HB0.out.trans (hSw.1.mono HB0.out.size)) K0.out; have e1 := cell_later (HB0.out.trans (hSw.1.mono HB0.out.size)) K1.out; have ev := hSw.2; have hp := HP.out w hSw.1 3 (.slice (some ⟨b, off, none⟩) fs.length c) rfl; have hp4 := HP.out w hSw.1 4 (.string ⟨bd.toArray⟩) rfl; clear hSw); go_simp); all_goals (with_reducible rfl)
              try simp only [Act.put, List.setIfInBounds_toArray, List.set_cons_zero, List.set_cons_succ]
              refine wpAnyL_ready (rs := [7]) (by kernel_rfl) (by simp) ?_
              refine (AllReadyL.cons (o := { dst := some 63, op := _, type := _, pos := _, after := _, guard := _ }) rfl (fun K hK => ?_) AllReadyL.nil)
              rw [if_pos (by kernel_rfl)]
              go_wp2_with fail
              have Cz1 := Lib.hid (Cw0.out.later (below_alloc (Below.refl _ _) (Nat.le_refl _) (.cells #[.string ⟨nm.toArray⟩, .string ⟨vl.toArray⟩] 58)))
              have HBz1 := Lib.hid (heap_alloc_new w0 (.cells #[.string ⟨nm.toArray⟩, .string ⟨vl.toArray⟩] 58))
              refine hK.out _ (w0.alloc (.cells #[.string ⟨nm.toArray⟩, .string ⟨vl.toArray⟩] 58)) ⟨Cz1.out.bel, cell_of_heap Cz1.out.box⟩ (fun hSz => ?_)
              generalize w0.alloc (.cells #[.string ⟨nm.toArray⟩, .string ⟨vl.toArray⟩] 58) = z1 at Cz1 HBz1 hSz ⊢
              generalize w0.heap.size = gA at HBz1 ⊢
              clear hK K
              try simp only [Act.put, List.setIfInBounds_toArray, List.set_cons_zero, List.set_cons_succ]
              refine wpAnyL_ready (rs := [8]) (by kernel_rfl) (by simp) ?_
              refine (AllReadyL.cons (o := { dst := some 64, op := _, type := _, pos := _, after := _, guard := _ }) rfl (fun K hK => ?_) AllReadyL.nil)
              rw [if_pos (by kernel_rfl)]
              refine wp_append_lies _ _ _ _ (by rfl) (B + 1) 58 i0 _ 2 32 Tryz.underlying29 hi hz0 hz1 hz2 rfl (by decide) _ (fs.take i).length (pairCells (fs.take i)) (by rfl) Cz1.out.own ⟨gA, 0, none⟩ 1 1 [.string ⟨nm.toArray⟩, .string ⟨vl.toArray⟩] (by rfl) (by rfl) (fun j u hj => by rw [Addr.add_lit, cell_of_heap HBz1.out]; simpa using hj) (by simp [Value.oneCell']) (by decide) (by simp only [maxLen]; omega) (by omega) (by have := Cz1.out.lt; omega) _ rfl ?_
              intro g2 cap z2 hown hgr hat hlt3
              have CP := Lib.hid (Cz1.out.push (f := (nm, vl)) hown hgr)
              have XA := Lib.hid (Cz1.out.grown hgr)
              clear hown hgr hat hlt3
              refine hK.out _ _ ⟨XA.out.2, cell_of_heap XA.out.1⟩ (fun _ => ?_)
              clear hK K
              try simp only [Act.put, List.setIfInBounds_toArray, List.set_cons_zero, List.set_cons_succ]
              refine wpAnyL_take (i := 9) (oi := { dst := some 65, op := _, type := _, pos := _, after := _, guard := _ }) (v := ?_) rfl (by kernel_rfl) (by kernel_rfl) (by kernel_rfl) (by kernel_rfl) (fun _ _ _ h => h) (Or.inl ⟨by kernel_rfl, ?_⟩) (by assumption) ?_
              rotate_left
              · (intro w hSw; (try dsimp only at hSw); go_simp); all_goals (with_reducible rfl)
              try simp only [Act.put, List.setIfInBounds_toArray, List.set_cons_zero, List.set_cons_succ]
              refine wpAnyL_ready (rs := [10]) (by kernel_rfl) (by simp) ?_
              refine (AllReadyL.final (o := { dst := none, op := _, type := _, pos := _, after := _, guard := _ }) rfl (fun K hK => ?_))
              rw [if_pos (by kernel_rfl)]
              have q3 := cell_of_heap (x := 3) XA.out.1
              have f3 := free_of_heap (x := 3) XA.out.1
              go_wp2_with fail
              refine hK.out _ (z2.setCell ⟨B, 3, none⟩ (.slice (some ⟨g2, 0, none⟩) (i + 1) cap)) ?_
              clear hK K
              try simp only [Act.put]
              refine wpAnyL_done (by kernel_rfl) ?_ _
              clear XA q3 f3
              rw [HTIL.out] at CP
              generalize z2.setCell ⟨B, 3, none⟩ (.slice (some ⟨g2, 0, none⟩) (i + 1) cap) = wN at CP ⊢
              have q3 := HP.out wN CP.out.bel 3 (.slice (some ⟨b, off, none⟩) fs.length c) rfl
              have e1 := cell_later (HB0.out.trans (CP.out.bel.mono HB0.out.size)) K1.out
              go_wp2_with fail
              go_roundg (fs.length - (i + 1))
              case measure => omega
              case rel =>
                refine ⟨i + 1, .slice (some ⟨g2, 0, none⟩) (i + 1) cap, by omega, by omega, by go_num, ?_, ?_, HN.out.out⟩
                · rw [HTI.out, List.flatMap_append, ← List.append_assoc, HX.out]
                  exact congrArg Value.string (by apply ByteArray.ext; simp [fieldT])
                · rw [HTI.out]; exact CP
    · have he : i = fs.length := by omega
      subst he
      rw [List.take_length] at CW NB
      rw [List.take_length]
      clear hlt hin hg C0
      have q4 := HP.out wr CW.out.bel 4 (.string ⟨bd.toArray⟩) rfl
      have hfn : fs.length ≤ 250000000 := by omega
      go_upto_if 80 with (fail)
      go_cut [4] (fun s4 wx => ∃ v, s4 = .string ⟨(T ++ (fs ++ addLen bd).flatMap fieldT).toArray⟩ ∧ Hid (CopyAt w1 wx B me ta mi bd cl v (fs ++ addLen bd)))
      case first =>
        by_cases hbd : bd = []
        · have HAD : Hid (fs ++ addLen bd = fs) := by show _ = _; unfold addLen; rw [if_pos hbd, List.append_nil]
          subst hbd
          go_wp2_with fail
          go_meet
          case rel => exact ⟨_, by rw [HAD.out], by rw [HAD.out]; exact CW⟩
        · have HAD : Hid (fs ++ addLen bd = fs ++ [(longL, Lib.itoa bd.length)]) := by show _ = _; unfold addLen; rw [if_neg hbd]
          obtain ⟨b0, bt, rfl⟩ := List.exists_cons_of_ne_nil hbd
          clear hbd
          have hcast : ((b0 :: bt).length : Int) = ((bt.length + 1 : Nat) : Int) := by simp
          have hbl : bt.length + 1 ≤ 1000000000 := by simp only [List.length_cons] at hlt0; omega
          rw [hcast, Lib.itoa_nonneg] at HAD
          have hitl := itoa_len30 ((bt.length + 1 : Nat) : Int) ⟨by omega, by omega⟩
          rw [Lib.itoa_nonneg] at hitl
          have HDG : Hid (∀ W, Calls Tryz.prog 44 #[.int .i64 ((bt.length : Int) + 1)] W fun e w' => e = .returned (.string ⟨(Lib.decDigits (bt.length + 1)).toArray⟩) ∧ Below W.heap.size W w') := fun W => by
            have := digits_any (bt.length + 1) W (by omega)
            rw [show ((bt.length + 1 : Nat) : Int) = (bt.length : Int) + 1 from by simp] at this
            refine this.mono ?_
            rintro e w' ⟨rfl, m, rfl⟩
            exact ⟨rfl, belowDrewN (Below.refl _ _) m⟩
          generalize Lib.decDigits (bt.length + 1) = it at *
          obtain ⟨X, hX⟩ : ∃ X, T ++ fs.flatMap fieldT = X := ⟨_, rfl⟩
          have hxl : X.length ≤ 1000000100 := by rw [← hX, List.length_append]; simp only [List.length_cons] at htl; omega
          have HX := Lib.hid hX
          rw [hX]
          have s1 : ¬ 9223372036854775807 < X.length + 16 := by omega
          have s2 : ¬ 9223372036854775807 < X.length + 16 + it.length := by omega
          have s3 : ¬ 9223372036854775807 < X.length + 16 + it.length + 2 := by omega
          clear hX hcast
          as_aux_lemma =>
            go_upto_region 15 with (fail)
            clear q4
            refine wp_region_heldL_drew (S := (fun W : World => Below w1.heap.size w1 W ∧ W.cell? ⟨B, 3, none⟩ = some vC)) 10 (by kernel_rfl) (by exact ⟨(CW.out.later (Below.refl _ _).drew).bel, cell_of_heap (CW.out.later (Below.refl _ _).drew).box⟩) (fun hS0 => ?_)
            have Cw0 := Lib.hid (CW.out.later (Below.refl _ _).drew)
            generalize wr.drew = w0 at Cw0 hS0 ⊢
            clear CW
            refine wpAnyL_take (i := 0) (oi := { dst := some 81, op := _, type := _, pos := _, after := _, guard := _ }) (v := ?_) rfl (by kernel_rfl) (by kernel_rfl) (by kernel_rfl) (by kernel_rfl) (fun _ _ _ h => h) (Or.inl ⟨by kernel_rfl, ?_⟩) (by assumption) ?_
            rotate_left
            · (intro w hSw; (try dsimp only at hSw); go_simp); all_goals (with_reducible rfl)
            try simp only [Act.put, List.setIfInBounds_toArray, List.set_cons_zero, List.set_cons_succ]
            refine wpAnyL_take (i := 1) (oi := { dst := some 82, op := _, type := _, pos := _, after := _, guard := _ }) (v := ?_) rfl (by kernel_rfl) (by kernel_rfl) (by kernel_rfl) (by kernel_rfl) (fun _ _ _ h => h) (Or.inl ⟨by kernel_rfl, ?_⟩) (by assumption) ?_
            rotate_left
            · (intro w hSw; (try dsimp only at hSw); (have ev := hSw.2; have hp := HP.out w hSw.1 3 (.slice a fs.length c) rfl; have hp4 := HP.out w hSw.1 4 (.string ⟨(b0 :: bt).toArray⟩) rfl; clear hSw); go_simp); all_goals (with_reducible rfl)
            try simp only [Act.put, List.setIfInBounds_toArray, List.set_cons_zero, List.set_cons_succ]
            refine wpAnyL_take (i := 2) (oi := { dst := some 83, op := _, type := _, pos := _, after := _, guard := _ }) (v := ?_) rfl (by kernel_rfl) (by kernel_rfl) (by kernel_rfl) (by kernel_rfl) (fun _ _ _ h => h) (Or.inl ⟨by kernel_rfl, ?_⟩) (by assumption) ?_
            rotate_left
            · (intro w hSw; (try dsimp only at hSw); go_simp); all_goals (with_reducible rfl)
            try simp only [Act.put, List.setIfInBounds_toArray, List.set_cons_zero, List.set_cons_succ]
            refine wpAnyL_take (i := 3) (oi := { dst := some 84, op := _, type := _, pos := _, after := _, guard := _ }) (v := ?_) rfl (by kernel_rfl) (by kernel_rfl) (by kernel_rfl) (by kernel_rfl) (fun _ _ _ h => h) (Or.inl ⟨by kernel_rfl, ?_⟩) (by assumption) ?_
            rotate_left
            · (intro w hSw; (try dsimp only at hSw); (have ev := hSw.2; have hp := HP.out w hSw.1 3 (.slice a fs.length c) rfl; have hp4 := HP.out w hSw.1 4 (.string ⟨(b0 :: bt).toArray⟩) rfl; clear hSw); go_simp); all_goals (with_reducible rfl)
            try simp only [Act.put, List.setIfInBounds_toArray, List.set_cons_zero, List.set_cons_succ]
            refine wpAnyL_take (i := 4) (oi := { dst := some 85, op := _, type := _, pos := _, after := _, guard := _ }) (v := ?_) rfl (by kernel_rfl) (by kernel_rfl) (by kernel_rfl) (by kernel_rfl) (fun _ _ _ h => h) (Or.inl ⟨by kernel_rfl, ?_⟩) (by assumption) ?_
            rotate_left
            · (intro w hSw; (try dsimp only at hSw); go_simp); all_goals (with_reducible rfl)
            try simp only [Act.put, List.setIfInBounds_toArray, List.set_cons_zero, List.set_cons_succ]
            refine wpAnyL_ready (rs := [5]) (by kernel_rfl) (by simp) ?_
            refine (AllReadyL.cons (o := { dst := some 86, op := _, type := _, pos := _, after := _, guard := _ }) rfl (fun K hK => ?_) AllReadyL.nil)
            rw [if_pos (by kernel_rfl)]
            refine wp_call_go Tryz.func44 (by kernel_rfl) (by kernel_rfl) (by rfl) (HDG.out _) (by rfl) ?_
            rintro e w' ⟨rfl, hb⟩
            refine ⟨_, rfl, ?_⟩
            have Cz1 := Lib.hid (Cw0.out.later hb)
            refine hK.out _ w' ⟨Cz1.out.bel, cell_of_heap Cz1.out.box⟩ (fun hSz => ?_)
            generalize hzz : w' = z1 at Cz1 hSz ⊢
            clear hzz hb
            clear hK K
            try simp only [Act.put, List.setIfInBounds_toArray, List.set_cons_zero, List.set_cons_succ]
            refine wpAnyL_take (i := 6) (oi := { dst := some 87, op := _, type := _, pos := _, after := _, guard := _ }) (v := ?_) rfl (by kernel_rfl) (by kernel_rfl) (by kernel_rfl) (by kernel_rfl) (fun _ _ _ h => h) (Or.inl ⟨by kernel_rfl, ?_⟩) (by assumption) ?_
            rotate_left
            · (intro w hSw; (try dsimp only at hSw); go_simp); all_goals (with_reducible rfl)
            try simp only [Act.put, List.setIfInBounds_toArray, List.set_cons_zero, List.set_cons_succ]
            refine wpAnyL_ready (rs := [7]) (by kernel_rfl) (by simp) ?_
            refine (AllReadyL.cons (o := { dst := some 88, op := _, type := _, pos := _, after := _, guard := _ }) rfl (fun K hK => ?_) AllReadyL.nil)
            rw [if_pos (by kernel_rfl)]
            go_wp2_with fail
            have Cz2 := Lib.hid (Cz1.out.later (below_alloc (Below.refl _ _) (Nat.le_refl _) (.cells #[.string ⟨longL.toArray⟩, .string ⟨it.toArray⟩] 58)))
            have HBz2 := Lib.hid (heap_alloc_new z1 (.cells #[.string ⟨longL.toArray⟩, .string ⟨it.toArray⟩] 58))
            refine hK.out _ (z1.alloc (.cells #[.string ⟨longL.toArray⟩, .string ⟨it.toArray⟩] 58)) ⟨Cz2.out.bel, cell_of_heap Cz2.out.box⟩ (fun hSz => ?_)
            generalize z1.alloc (.cells #[.string ⟨longL.toArray⟩, .string ⟨it.toArray⟩] 58) = z2 at Cz2 HBz2 hSz ⊢
            generalize z1.heap.size = gA at HBz2 ⊢
            clear hK K
            try simp only [Act.put, List.setIfInBounds_toArray, List.set_cons_zero, List.set_cons_succ]
            refine wpAnyL_ready (rs := [8]) (by kernel_rfl) (by simp) ?_
            refine (AllReadyL.cons (o := { dst := some 89, op := _, type := _, pos := _, after := _, guard := _ }) rfl (fun K hK => ?_) AllReadyL.nil)
            rw [if_pos (by kernel_rfl)]
            refine wp_append_lies _ _ _ _ (by rfl) (B + 1) 58 i0 _ 2 32 Tryz.underlying29 hi hz0 hz1 hz2 rfl (by decide) _ fs.length (pairCells fs) (by rfl) Cz2.out.own ⟨gA, 0, none⟩ 1 1 [.string ⟨longL.toArray⟩, .string ⟨it.toArray⟩] (by rfl) (by rfl) (fun j u hj => by rw [Addr.add_lit, cell_of_heap HBz2.out]; simpa using hj) (by simp [Value.oneCell']) (by decide) (by simp only [maxLen]; omega) (by omega) (by have := Cz2.out.lt; omega) _ rfl ?_
            intro g2 cap z3 hown hgr hat hlt3
            have CP := Lib.hid (Cz2.out.push (f := (longL, it)) hown hgr)
            have XA := Lib.hid (Cz2.out.grown hgr)
            clear hown hgr hat hlt3
            refine hK.out _ _ ⟨XA.out.2, cell_of_heap XA.out.1⟩ (fun _ => ?_)
            clear hK K
            try simp only [Act.put, List.setIfInBounds_toArray, List.set_cons_zero, List.set_cons_succ]
            refine wpAnyL_take (i := 9) (oi := { dst := some 90, op := _, type := _, pos := _, after := _, guard := _ }) (v := ?_) rfl (by kernel_rfl) (by kernel_rfl) (by kernel_rfl) (by kernel_rfl) (fun _ _ _ h => h) (Or.inl ⟨by kernel_rfl, ?_⟩) (by assumption) ?_
            rotate_left
            · (intro w hSw; (try dsimp only at hSw); go_simp); all_goals (with_reducible rfl)
            try simp only [Act.put, List.setIfInBounds_toArray, List.set_cons_zero, List.set_cons_succ]
            refine wpAnyL_ready (rs := [10]) (by kernel_rfl) (by simp) ?_
            refine (AllReadyL.final (o := { dst := none, op := _, type := _, pos := _, after := _, guard := _ }) rfl (fun K hK => ?_))
            rw [if_pos (by kernel_rfl)]
            have q3 := cell_of_heap (x := 3) XA.out.1
            have f3 := free_of_heap (x := 3) XA.out.1
            go_wp2_with fail
            refine hK.out _ (z3.setCell ⟨B, 3, none⟩ (.slice (some ⟨g2, 0, none⟩) (fs.length + 1) cap)) ?_
            clear hK K
            try simp only [Act.put]
            refine wpAnyL_done (by kernel_rfl) ?_ _
            clear XA q3 f3
            generalize z3.setCell ⟨B, 3, none⟩ (.slice (some ⟨g2, 0, none⟩) (fs.length + 1) cap) = wN at CP ⊢
            have q4 := HP.out wN CP.out.bel 4 (.string ⟨(b0 :: bt).toArray⟩) rfl
            go_wp2_with fail
            refine (HDG.out _).mono ?_
            rintro e w7 ⟨rfl, h7⟩
            have CQ := Lib.hid (CP.out.later h7)
            clear h7
            go_wp2_with fail
            go_meet
            case rel =>
              refine ⟨_, ?_, by rw [HAD.out]; exact CQ⟩
              rw [HAD.out, List.flatMap_append, ← List.append_assoc, HX.out]
              exact congrArg Value.string (by apply ByteArray.ext; simp [fieldT, longL])
      case rest =>
      obtain ⟨v4, hv4, C4⟩ := hcut
      subst hv4
      obtain ⟨w4c, rfl⟩ : ∃ wx : World, wx = wc := ⟨_, rfl⟩
      obtain ⟨G, hGG⟩ : ∃ G, fs ++ addLen bd = G := ⟨_, rfl⟩
      have HGG := Lib.hid hGG
      have HGL : Hid (G.length ≤ 250000001 ∧ T.length + (G.flatMap fieldT).length + bd.length ≤ 1000000160) := by
        rw [← hGG]
        have h1 := itoa_len30 (bd.length : Int) ⟨by omega, by omega⟩
        constructor
        · rw [List.length_append]
          have : (addLen bd).length ≤ 1 := by unfold addLen; split <;> simp
          omega
        · rw [List.flatMap_append, List.length_append]
          have : ((addLen bd).flatMap fieldT).length ≤ 50 := by
            unfold addLen
            split
            · simp
            · simp only [List.flatMap_cons, List.flatMap_nil, List.append_nil, fieldT_len]
              simp only [longL, List.length_cons, List.length_nil]
              omega
          omega
      rw [hGG] at C4 ⊢
      obtain ⟨a4, c4, rfl⟩ := C4.out.form
      obtain ⟨X, hX⟩ : ∃ X, T ++ G.flatMap fieldT = X := ⟨_, rfl⟩
      have hxl : X.length ≤ 1000000200 := by have := HGL.out.2; rw [← hX, List.length_append]; omega
      have HX := Lib.hid hX
      rw [hX]
      have hgl := HGL.out.1
      have q5 := HP.out w4c C4.out.bel 5 (.bool cl) rfl
      have q2 := HP.out w4c C4.out.bel 2 (.int .i64 mi) rfl
      have qB : w4c.cell? ⟨B, 3, none⟩ = some (.slice a4 G.length c4) := cell_of_heap C4.out.box
      have s1 : ¬ 9223372036854775807 < X.length + 19 := by omega
      clear hGG hX CW q4 q3
      go_upto_region 17 with (fail)
      go_cut [105] (fun s105 wx => s105 = .bool (cl && mi == 1) ∧ wx = w4c)
      case first =>
        rcases HMI.out with hmi | hmi <;> subst hmi <;> cases cl
        all_goals
          go_wp2_with fail
          go_meet
          exact ⟨rfl, rfl⟩
      case rest =>
      obtain ⟨hs105, rfl⟩ := hcut
      subst hs105
      obtain ⟨w4c, rfl⟩ : ∃ wx : World, wx = wc := ⟨_, rfl⟩
      go_upto_if 105 with (fail)
      go_cut [4] (fun s4 wx => ∃ v, s4 = .string ⟨(T ++ (G ++ addA cl mi).flatMap fieldT).toArray⟩ ∧ Hid (CopyAt w1 wx B me ta mi bd cl v (G ++ addA cl mi)))
      case first =>
        rcases HMI.out with hmi | hmi
        · subst hmi
          cases cl
          · have HAD : Hid (G ++ addA false 0 = G) := by show _ = _; simp [addA]
            go_wp2_with fail
            go_meet
            case rel => exact ⟨_, by rw [HAD.out, HX.out], by rw [HAD.out]; exact C4⟩
          · have HAD : Hid (G ++ addA true 0 = G) := by show _ = _; simp [addA]
            go_wp2_with fail
            go_meet
            case rel => exact ⟨_, by rw [HAD.out, HX.out], by rw [HAD.out]; exact C4⟩
        · subst hmi
          cases cl
          · have HAD : Hid (G ++ addA false 1 = G) := by show _ = _; simp [addA]
            go_wp2_with fail
            go_meet
            case rel => exact ⟨_, by rw [HAD.out, HX.out], by rw [HAD.out]; exact C4⟩
          · have HAD : Hid (G ++ addA true 1 = G ++ [(connL, closeL)]) := rfl
            go_wp2_with (at_builtin; refine wpList_append_lies _ rfl _ _ 29 rfl (B + 1) 58 i0 _ 2 32 Tryz.underlying29 hi hz0 hz1 hz2 rfl (by decide) _ _ _ rfl (C4.out.own.alloc _) ⟨w4c.heap.size, 0, none⟩ 1 1 [.string ⟨connL.toArray⟩, .string ⟨closeL.toArray⟩] rfl rfl (fun j u hj => cells_new _ _ _ _ _ (by simpa [connL, closeL] using hj)) (by simp [Value.oneCell']) (by decide) (by simp only [maxLen]; omega) (by omega) (by have := C4.out.lt; simp; omega) _ rfl ?_)
            intro gn cap w6 hown hgr hat hlt5
            have CA := C4.out.later (below_alloc (Below.refl _ _) (Nat.le_refl _) (.cells #[.string ⟨connL.toArray⟩, .string ⟨closeL.toArray⟩] 58))
            have CP := Lib.hid (CA.push (f := (connL, closeL)) hown hgr)
            have XA := Lib.hid (CA.grown hgr)
            clear hown hgr hat hlt5 CA
            have q3 := cell_of_heap (x := 3) XA.out.1
            have f3 := free_of_heap (x := 3) XA.out.1
            go_wp2_with fail
            go_meet
            case rel => exact ⟨_, by rw [HAD.out, List.flatMap_append, ← List.append_assoc, HX.out]; exact congrArg Value.string (by apply ByteArray.ext; simp [fieldT, connL, closeL]), by rw [HAD.out]; exact CP⟩
      case rest =>
      obtain ⟨v5, hv5, C5⟩ := hcut
      subst hv5
      obtain ⟨w5c, rfl⟩ : ∃ wx : World, wx = wc := ⟨_, rfl⟩
      obtain ⟨G2, hG2⟩ : ∃ G2, G ++ addA cl mi = G2 := ⟨_, rfl⟩
      have HG2 := Lib.hid hG2
      have HG2L : Hid (G2.length ≤ 250000002 ∧ T.length + (G2.flatMap fieldT).length + bd.length ≤ 1000000200) := by
        rw [← hG2]
        have h2 := HGL.out.2
        have hx : addA cl mi = [] ∨ addA cl mi = [(connL, closeL)] := by
          unfold addA
          split
          · split <;> simp
          · simp
        constructor
        · rw [List.length_append]
          rcases hx with h | h <;> rw [h] <;> simp <;> omega
        · rw [List.flatMap_append, List.length_append]
          have hz : ((addA cl mi).flatMap fieldT).length ≤ 30 := by rcases hx with h | h <;> rw [h] <;> decide
          omega
      rw [hG2] at C5 ⊢
      obtain ⟨a5, c5, rfl⟩ := C5.out.form
      obtain ⟨X2, hX2⟩ : ∃ X, T ++ G2.flatMap fieldT = X := ⟨_, rfl⟩
      have hxl2 : X2.length ≤ 1000000200 := by have := HG2L.out.2; rw [← hX2, List.length_append]; omega
      have HX := Lib.hid hX2
      rw [hX2]
      have hgl2 := HG2L.out.1
      have q5 := HP.out w5c C5.out.bel 5 (.bool cl) rfl
      have q2 := HP.out w5c C5.out.bel 2 (.int .i64 mi) rfl
      have qB : w5c.cell? ⟨B, 3, none⟩ = some (.slice a5 G2.length c5) := cell_of_heap C5.out.box
      have s1 : ¬ 9223372036854775807 < X2.length + 24 := by omega
      clear hG2 hX2 C4 hgl hxl
      go_upto_region 20 with (fail)
      go_cut [121] (fun s121 wx => s121 = .bool (!cl && mi == 0) ∧ wx = w5c)
      case first =>
        rcases HMI.out with hmi | hmi <;> subst hmi <;> cases cl
        all_goals
          go_wp2_with fail
          go_meet
          exact ⟨rfl, rfl⟩
      case rest =>
      obtain ⟨hs121, rfl⟩ := hcut
      subst hs121
      obtain ⟨w5c, rfl⟩ : ∃ wx : World, wx = wc := ⟨_, rfl⟩
      go_upto_if 121 with (fail)
      go_cut [4] (fun s4 wx => ∃ v, s4 = .string ⟨(T ++ (G2 ++ addB cl mi).flatMap fieldT).toArray⟩ ∧ Hid (CopyAt w1 wx B me ta mi bd cl v (G2 ++ addB cl mi)))
      case first =>
        rcases HMI.out with hmi | hmi
        · subst hmi
          cases cl
          · have HAD : Hid (G2 ++ addB false 0 = G2 ++ [(connL, aliveL)]) := rfl
            go_wp2_with (at_builtin; refine wpList_append_lies _ rfl _ _ 29 rfl (B + 1) 58 i0 _ 2 32 Tryz.underlying29 hi hz0 hz1 hz2 rfl (by decide) _ _ _ rfl (C5.out.own.alloc _) ⟨w5c.heap.size, 0, none⟩ 1 1 [.string ⟨connL.toArray⟩, .string ⟨aliveL.toArray⟩] rfl rfl (fun j u hj => cells_new _ _ _ _ _ (by simpa [connL, aliveL] using hj)) (by simp [Value.oneCell']) (by decide) (by simp only [maxLen]; omega) (by omega) (by have := C5.out.lt; simp; omega) _ rfl ?_)
            intro gn cap w6 hown hgr hat hlt5
            have CA := C5.out.later (below_alloc (Below.refl _ _) (Nat.le_refl _) (.cells #[.string ⟨connL.toArray⟩, .string ⟨aliveL.toArray⟩] 58))
            have CP := Lib.hid (CA.push (f := (connL, aliveL)) hown hgr)
            have XA := Lib.hid (CA.grown hgr)
            clear hown hgr hat hlt5 CA
            have q3 := cell_of_heap (x := 3) XA.out.1
            have f3 := free_of_heap (x := 3) XA.out.1
            go_wp2_with fail
            go_meet
            case rel => exact ⟨_, by rw [HAD.out, List.flatMap_append, ← List.append_assoc, HX.out]; exact congrArg Value.string (by apply ByteArray.ext; simp [fieldT, connL, aliveL]), by rw [HAD.out]; exact CP⟩
          · have HAD : Hid (G2 ++ addB true 0 = G2) := by show _ = _; simp [addB]
            go_wp2_with fail
            go_meet
            case rel => exact ⟨_, by rw [HAD.out, HX.out], by rw [HAD.out]; exact C5⟩
        · subst hmi
          cases cl
          · have HAD : Hid (G2 ++ addB false 1 = G2) := by show _ = _; simp [addB]
            go_wp2_with fail
            go_meet
            case rel => exact ⟨_, by rw [HAD.out, HX.out], by rw [HAD.out]; exact C5⟩
          · have HAD : Hid (G2 ++ addB true 1 = G2) := by show _ = _; simp [addB]
            go_wp2_with fail
            go_meet
            case rel => exact ⟨_, by rw [HAD.out, HX.out], by rw [HAD.out]; exact C5⟩
      case rest =>
      obtain ⟨v6, hv6, C6⟩ := hcut
      subst hv6
      obtain ⟨w6, rfl⟩ : ∃ wx : World, wx = wc := ⟨_, rfl⟩
      obtain ⟨H, hH⟩ : ∃ H, G2 ++ addB cl mi = H := ⟨_, rfl⟩
      have HFS : Hid ((fullV R).fields = H) := by
        show _ = _
        rw [← hH, ← HG2.out, ← HGG.out, ← HR.out, List.append_assoc (fs ++ addLen bd), addAB]
        rfl
      have HHL : Hid (H.length ≤ 250000003 ∧ T.length + (H.flatMap fieldT).length + bd.length ≤ 1000000300) := by
        rw [← hH]
        have h2 := HG2L.out.2
        have hx : addB cl mi = [] ∨ addB cl mi = [(connL, aliveL)] := by
          unfold addB
          split
          · simp
          · split <;> simp
        constructor
        · rw [List.length_append]
          rcases hx with h | h <;> rw [h] <;> simp <;> omega
        · rw [List.flatMap_append, List.length_append]
          have hz : ((addB cl mi).flatMap fieldT).length ≤ 30 := by rcases hx with h | h <;> rw [h] <;> decide
          omega
      rw [hH] at C6 ⊢
      obtain ⟨a6, c6, rfl⟩ := C6.out.form
      rw [HFS.out] at HAT
      obtain ⟨X3, hX3⟩ : ∃ X, T ++ H.flatMap fieldT = X := ⟨_, rfl⟩
      have hxl3 : X3.length ≤ 1000000300 := by have := HHL.out.2; rw [← hX3, List.length_append]; omega
      rw [hX3] at HAT ⊢
      have hgl3 := HHL.out.1
      have q4 := HP.out w6 C6.out.bel 4 (.string ⟨bd.toArray⟩) rfl
      have HXS : Hid ((⟨X3.toArray⟩ : ByteArray) ++ ⟨#[13, 10]⟩ ++ ⟨bd.toArray⟩ = ⟨(askT R).toArray⟩) := by show _ = _; rw [HAT.out]; apply ByteArray.ext; simp
      have s1 : ¬ 9223372036854775807 < X3.length + 2 := by omega
      have s2 : ¬ 9223372036854775807 < X3.length + 2 + bd.length := by omega
      have HFV : Hid (fullV R = ⟨me, ta, mi, H, bd, cl⟩) := by show _ = _; rw [← HFS.out, ← HR.out]; rfl
      have BX := Lib.hid C6.out.bel
      have HNW := Lib.hid (rNew_any w6 (HG.out _ (HB0.out.trans (BX.out.mono HB0.out.size))))
      clear hH hX3 HGG HG2 HGL HG2L C5 hgl2 hxl2 hxl3 HX HFS HHL
      go_wp2_with fail
      refine HNW.out.mono ?_
      rintro e w7 ⟨rfl, ⟨xo, xl, xf, xb, r7⟩, b7⟩
      obtain ⟨rd, hrd⟩ : ∃ x : Nat, w6.heap.size = x := ⟨_, rfl⟩
      have HRD := Lib.hid hrd
      rw [hrd] at r7 ⊢
      have B7W := Lib.hid b7
      have HFE := Lib.hid (rFeed_any (askT R) r7.idle Sim.zero rsZ_wf (by have := HLA.out; omega))
      obtain ⟨res, hres⟩ : ∃ x, rsZ.feed (askT R) = x := ⟨_, rfl⟩
      have HWF : Hid (WF (askT R).length (rsZ.feed (askT R)).1) := by
        have := feed_wf (askT R) rsZ 0 rsZ_wf
        rw [Nat.zero_add] at this
        exact this
      have HQF : Hid (∀ q ∈ (rsZ.feed (askT R)).2, q.fields.length ≤ 50) := feed_flds (askT R) rsZ 0 rsZ_wf
      have HSIM := Lib.hid (sim_feed (askT R) Sim.zero rsZ_wf)
      rw [hres] at HWF HQF HSIM
      have HBK : Hid (askOK R = (decide (res.2 = [⟨me, ta, mi, H, bd, cl⟩]) && decide (res.1.fault = 0) && decide (res.1.held = 0))) := by
        show _ = _
        rw [HOK2.out, NB.out]
        unfold backOK
        rw [hres, HFV.out]
        rcases HMI.out with h | h <;> rw [h] <;> simp
      have HLB := Lib.hid HLA.out
      obtain ⟨txt, htxt⟩ : ∃ x, askT R = x := ⟨_, rfl⟩
      have HTX := Lib.hid htxt
      rw [htxt] at HFE HXS HWF HLB HSIM
      obtain ⟨s8, qs⟩ := res
      simp only at HBK HWF HQF HSIM
      rw [HSIM.out.2] at HFE
      have SIMX := Lib.hid HSIM.out.1
      generalize (qsZ.feed txt).1 = q8 at *
      clear htxt hres r7 b7 hrd HNW q4 s1 s2 HAT HFV HOK2 HSIM
      rw [HXS.out]
      go_wp2_with fail
      refine HFE.out.mono ?_
      rintro e w8 ⟨x8, yl, yf, yb, xs8, rfl, r8, m8⟩
      have b78 := B7W.out.trans (m8.below B7W.out.size (fun b hb => by rw [show b = rd from hb]; exact Nat.le_of_eq HRD.out))
      have B8 := Lib.hid (BX.out.trans (b78.mono BX.out.size))
      have C8 := Lib.hid (C6.out.later b78)
      obtain ⟨K8, q8r⟩ := r8.reqs
      obtain ⟨a8, c8, rfl⟩ := q8r.form
      have Q8 := Lib.hid q8r
      have X13 : w8.cell? ⟨rd, 13, none⟩ = some (.int .i64 s8.fault) := by rw [← SIMX.out.fault]; exact cell_of_heap r8.box
      have HH8 : Hid (Calls Tryz.prog 20 #[.pointer (some ⟨rd, 0, none⟩)] w8 fun e w' => e = .returned (.int .i64 s8.held) ∧ Below w8.heap.size w8 w') := by
        rw [← SIMX.out.held]
        refine (rHeld_any ⟨_, _, _, _, r8⟩ fun hd => ?_).mono (by rintro e w' ⟨rfl, n, rfl⟩; exact ⟨rfl, belowDrewN (Below.refl _ _) n⟩)
        have sl := SIMX.out.live (by rw [← SIMX.out.done]; exact hd)
        have h1 := HWF.out.h0; have h2 := HWF.out.h1; have h3 := HWF.out.line; have h4 := HWF.out.body
        have h5 := HLB.out
        rw [sl.head, sl.line, sl.body]
        exact ⟨h1, by omega, by omega, by omega⟩
      clear r8 m8 q8r HFE b78 B7W BX SIMX C6
      by_cases hn1 : qs.length = 1
      case neg =>
        have HE : Hid (askOK R = false) := by
          show _ = _
          rw [HBK.out, decide_eq_false (fun h => hn1 (by rw [h]; rfl))]
          rfl
        have n1 : ((qs.length : Int) == 1) = false := by rw [beq_eq_false_iff_ne]; omega
        have n2 : ((qs.length : Int) != 1) = true := by rw [bne, n1]; rfl
        clear hn1
        go_wp2_with fail
        go_ret2
        exact ⟨⟨_, by rw [HE.out]; rfl, fun h => by rw [HE.out] at h; cases h⟩, HB0.out.trans (B8.out.mono HB0.out.size)⟩
      case pos =>
      obtain ⟨q, rfl⟩ := List.length_eq_one_iff.1 hn1
      clear hn1
      by_cases hf0 : s8.fault = 0
      case neg =>
        have HE : Hid (askOK R = false) := by
          show _ = _
          rw [HBK.out, decide_eq_false hf0]
          simp
        have n1 : (s8.fault == 0) = false := by rw [beq_eq_false_iff_ne]; exact hf0
        have n2 : (s8.fault != 0) = true := by rw [bne, n1]; rfl
        go_wp2_with fail
        go_ret2
        exact ⟨⟨_, by rw [HE.out]; rfl, fun h => by rw [HE.out] at h; cases h⟩, HB0.out.trans (B8.out.mono HB0.out.size)⟩
      case pos =>
      rw [hf0] at X13
      by_cases hh0 : s8.held = 0
      case neg =>
        have HE : Hid (askOK R = false) := by
          show _ = _
          rw [HBK.out, decide_eq_false hh0]
          simp
        have n1 : (s8.held == 0) = false := by rw [beq_eq_false_iff_ne]; exact hh0
        have n2 : (s8.held != 0) = true := by rw [bne, n1]; rfl
        go_wp2_with fail
        refine HH8.out.mono ?_
        rintro e w9 ⟨rfl, b9⟩
        have B9 := Lib.hid (B8.out.trans (b9.mono B8.out.size))
        clear b9
        go_wp2_with fail
        go_ret2
        exact ⟨⟨_, by rw [HE.out]; rfl, fun h => by rw [HE.out] at h; cases h⟩, HB0.out.trans (B9.out.mono HB0.out.size)⟩
      case pos =>
      rw [hh0] at HH8
      have HBQ : Hid (askOK R = decide (q = ⟨me, ta, mi, H, bd, cl⟩)) := by
        show _ = _
        rw [HBK.out, hf0, hh0]
        simp
      clear hf0 hh0 HBK
      go_wp2_with fail
      refine HH8.out.mono ?_
      rintro e w9 ⟨rfl, b9⟩
      have B9 := Lib.hid (B8.out.trans (b9.mono B8.out.size))
      have C9 := Lib.hid (C8.out.later b9)
      obtain ⟨ga, ca', vfa, hva, x0, x1, x2, x3, x4, x5, oa, _⟩ := (Q8.out.later b9).at (i := 0) rfl
      injection hva with hva _ ea
      subst hva ea
      simp only [Nat.zero_mul, Nat.zero_add] at x0 x1 x2 x3 x4 x5
      have hqf := HQF.out q (by simp)
      obtain ⟨av, cv, rfl⟩ := row_form oa
      have PA := pairs_own oa (by omega)
      have PB := C9.out.pairs (by omega)
      have HSM : Hid (∀ W, Below w9.heap.size w9 W → Calls Tryz.prog 12 #[reqAgg q (.slice av q.fields.length cv), reqAgg ⟨me, ta, mi, H, bd, cl⟩ (.slice a6 H.length c6)] W fun e w' => e = .returned (.bool (askOK R)) ∧ Below W.heap.size W w') := fun W hW => by
        have := same_any q ⟨me, ta, mi, H, bd, cl⟩ _ _ W (PA.later hW) (PB.later hW)
        rw [HBQ.out]
        exact this
      have X0 := Lib.hid x0
      have X1 := Lib.hid x1
      have X2 := Lib.hid x2
      have X3 := Lib.hid x3
      have X4 := Lib.hid x4
      have X5 := Lib.hid x5
      have P0 : Hid (w9.cell? ⟨B, 0, none⟩ = some (.string ⟨me.toArray⟩)) := cell_of_heap C9.out.box
      have P1 : Hid (w9.cell? ⟨B, 1, none⟩ = some (.string ⟨ta.toArray⟩)) := cell_of_heap C9.out.box
      have P2 : Hid (w9.cell? ⟨B, 2, none⟩ = some (.int .i64 mi)) := cell_of_heap C9.out.box
      have P3 : Hid (w9.cell? ⟨B, 3, none⟩ = some (.slice a6 H.length c6)) := cell_of_heap C9.out.box
      have P4 : Hid (w9.cell? ⟨B, 4, none⟩ = some (.string ⟨bd.toArray⟩)) := cell_of_heap C9.out.box
      have P5 : Hid (w9.cell? ⟨B, 5, none⟩ = some (.bool cl)) := cell_of_heap C9.out.box
      clear b9 oa x0 x1 x2 x3 x4 x5 X13 PA PB
      as_aux_lemma =>
        go_upto_region 28 with (fail)
        refine wp_region_held_drew (S := (fun W : World => Below w9.heap.size w9 W)) (by kernel_rfl) (Below.drew (Below.refl _ _)) (fun hS0 => ?_)
        refine wpAnyH_take (i := 0) (oi := { dst := some 154, op := _, type := _, pos := _, after := _, guard := _ }) (v := ?_) rfl (by kernel_rfl) (by kernel_rfl) (by kernel_rfl) (fun _ _ _ h => h) (Or.inl ⟨by kernel_rfl, ?_⟩) (by assumption) ?_
        rotate_left
        · (intro w hSw; (try dsimp only at hSw); go_simp); all_goals (with_reducible rfl)
        try simp only [Act.put, List.setIfInBounds_toArray, List.set_cons_zero, List.set_cons_succ]
        refine wpAnyH_take (i := 1) (oi := { dst := some 155, op := _, type := _, pos := _, after := _, guard := _ }) (v := ?_) rfl (by kernel_rfl) (by kernel_rfl) (by kernel_rfl) (fun _ _ _ h => h) (Or.inl ⟨by kernel_rfl, ?_⟩) (by assumption) ?_
        rotate_left
        · (intro w hSw; (try dsimp only at hSw); go_simp); all_goals (with_reducible rfl)
        try simp only [Act.put, List.setIfInBounds_toArray, List.set_cons_zero, List.set_cons_succ]
        refine wpAnyH_take (i := 2) (oi := { dst := some 156, op := _, type := _, pos := _, after := _, guard := _ }) (v := ?_) rfl (by kernel_rfl) (by kernel_rfl) (by kernel_rfl) (fun _ _ _ h => h) (Or.inl ⟨by kernel_rfl, ?_⟩) (by assumption) ?_
        rotate_left
        · (intro w hSw; (try dsimp only at hSw); (have z0 := cell_later hSw X0.out); (have z1 := cell_later hSw X1.out); (have z2 := cell_later hSw X2.out); (have z3 := cell_later hSw X3.out); (have z4 := cell_later hSw X4.out); (have z5 := cell_later hSw X5.out); (have z6 := cell_later hSw P0.out); (have z7 := cell_later hSw P1.out); (have z8 := cell_later hSw P2.out); (have z9 := cell_later hSw P3.out); (have z10 := cell_later hSw P4.out); (have z11 := cell_later hSw P5.out); go_simp); all_goals (with_reducible rfl)
        try simp only [Act.put, List.setIfInBounds_toArray, List.set_cons_zero, List.set_cons_succ]
        refine wpAnyH_take (i := 3) (oi := { dst := some 157, op := _, type := _, pos := _, after := _, guard := _ }) (v := ?_) rfl (by kernel_rfl) (by kernel_rfl) (by kernel_rfl) (fun _ _ _ h => h) (Or.inl ⟨by kernel_rfl, ?_⟩) (by assumption) ?_
        rotate_left
        · (intro w hSw; (try dsimp only at hSw); (have z0 := cell_later hSw X0.out); (have z1 := cell_later hSw X1.out); (have z2 := cell_later hSw X2.out); (have z3 := cell_later hSw X3.out); (have z4 := cell_later hSw X4.out); (have z5 := cell_later hSw X5.out); (have z6 := cell_later hSw P0.out); (have z7 := cell_later hSw P1.out); (have z8 := cell_later hSw P2.out); (have z9 := cell_later hSw P3.out); (have z10 := cell_later hSw P4.out); (have z11 := cell_later hSw P5.out); go_simp); all_goals (with_reducible rfl)
        try simp only [Act.put, List.setIfInBounds_toArray, List.set_cons_zero, List.set_cons_succ]
        refine wpAnyH_ready (rs := [4]) (by kernel_rfl) (by simp) ?_
        refine (AllReadyH.cons (o := { dst := some 158, op := _, type := _, pos := _, after := _, guard := _ }) rfl (fun K hK => ?_) AllReadyH.nil)
        rw [if_pos (by kernel_rfl)]
        refine wp_call_go Tryz.func12 (by kernel_rfl) (by kernel_rfl) (by rfl) (HSM.out _ hS0) (by rfl) ?_
        rintro e w' ⟨rfl, hb⟩
        refine ⟨_, rfl, ?_⟩
        refine hK.out _ w' (hS0.trans (hb.mono hS0.size)) (fun hSe => ?_)
        clear hK K
        try simp only [Act.put, List.setIfInBounds_toArray, List.set_cons_zero, List.set_cons_succ]
        refine wpAnyH_take (i := 5) (oi := { dst := some 10, op := _, type := _, pos := _, after := _, guard := _ }) (v := ?_) rfl (by kernel_rfl) (by kernel_rfl) (by kernel_rfl) (fun _ _ _ h => h) (Or.inl ⟨by kernel_rfl, ?_⟩) (by assumption) ?_
        rotate_left
        · (intro w hSw; (try dsimp only at hSw); go_simp); all_goals (with_reducible rfl)
        try simp only [Act.put, List.setIfInBounds_toArray, List.set_cons_zero, List.set_cons_succ]
        refine wpAnyH_done (by kernel_rfl) ?_ _
        have B11 := Lib.hid hSe
        clear hSe
        go_wp2_with fail
        go_ret2
        exact ⟨⟨_, rfl, fun _ => by rw [HTX.out]⟩, HB0.out.trans ((B9.out.trans (B11.out.mono B9.out.size)).mono HB0.out.size)⟩
end Go.Proofs.YtdilmefeofdkmaaGreatDoor
