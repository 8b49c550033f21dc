/-
  WIRE: Encode. (Printed by wip/gen/wienc.py.)
-/
import Derived.Test.YtdilmefeofdkmaaGreatDoorSm10
namespace Go.Proofs.YtdilmefeofdkmaaGreatDoor
open Go.RowKit

set_option maxHeartbeats 16000000 in
set_option maxRecDepth 100000 in
theorem encode_any (n : Int) (hn0 : IntOK n) {vf : Value} {fs : List (List UInt8 × List UInt8)} {w : World} (hF : PairsAt w vf fs) (hfl : (fs.flatMap fieldT).length ≤ 1000000000) (body : List UInt8) (hbl : body.length ≤ 1000000000) (bare close : Bool) (hG : Glob w) :
    Calls Tryz.prog 22 #[.agg #[.int .i64 n, vf, .string ⟨body.toArray⟩, .bool bare, .bool close]] w fun e w' => e = .returned (.tuple #[.string ⟨((encodeV n fs body bare close).getD []).toArray⟩, .int .i64 (errE (encodeV n fs body bare close))]) ∧ Below w.heap.size w w' := by
  obtain ⟨a, c, rfl, _, hfn, hc⟩ := hF
  have HC := Lib.hid hc
  have HLF := Lib.hid hfl
  have HG := Lib.hid hG
  have HBL := Lib.hid hbl
  obtain ⟨w1, hw1⟩ : ∃ w1, w.alloc (.cells #[.int .i64 n, .slice a fs.length c, .string ⟨body.toArray⟩, .bool bare, .bool close] 46) = w1 := ⟨_, rfl⟩
  have HB0 : Hid (Below w.heap.size w w1) := by rw [← hw1]; exact below_alloc (Below.refl _ _) (Nat.le_refl _) _
  have p0 : Hid (w1.cell? ⟨w.heap.size, 0, none⟩ = some (.int .i64 n)) := by show _ = _; rw [← hw1]; exact cell_new _ _ _ _ _ _ rfl rfl
  have p1 : Hid (w1.cell? ⟨w.heap.size, 1, none⟩ = some (.slice a fs.length c)) := by show _ = _; rw [← hw1]; exact cell_new _ _ _ _ _ _ rfl rfl
  have p2 : Hid (w1.cell? ⟨w.heap.size, 2, none⟩ = some (.string ⟨body.toArray⟩)) := by show _ = _; rw [← hw1]; exact cell_new _ _ _ _ _ _ rfl rfl
  have p3 : Hid (w1.cell? ⟨w.heap.size, 3, none⟩ = some (.bool bare)) := by show _ = _; rw [← hw1]; exact cell_new _ _ _ _ _ _ rfl rfl
  have p4 : Hid (w1.cell? ⟨w.heap.size, 4, none⟩ = some (.bool close)) := by show _ = _; rw [← hw1]; exact cell_new _ _ _ _ _ _ rfl rfl
  have q0 := p0.out
  have q1 := p1.out
  have q2 := p2.out
  have q3 := p3.out
  have q4 := p4.out
  have hre := fun W => reason_any n W
  obtain ⟨rs, hrs⟩ : ∃ x, reasonL n = x := ⟨_, rfl⟩
  rw [hrs] at hre
  have HRE := Lib.hid hre
  have HRS := Lib.hid hrs
  clear hre hrs
  have HRL := Lib.hid (reasonL_len n)
  have HIT := Lib.hid (itoa_any n hn0)
  have HII := Lib.hid (itoa_len30 n hn0)
  clear hc hfl hG
  go_enter Tryz.func22, Tryz.ntmps22
  go_upto_region 1 with (fail)
  have HW1 := Lib.hid hw1
  clear hw1
  go_wp2_with fail
  refine (HRE.out _).mono ?_
  rintro e w1 ⟨rfl, rfl⟩
  by_cases h1 : rs = []
  · have HE : Hid (encodeV n fs body bare close = none) := by show _ = _; unfold encodeV; rw [if_pos (.inl (HRS.out.trans h1))]
    subst h1
    go_wp2
    go_ret2
    exact ⟨by rw [HE.out]; rfl, HB0.out⟩
  have h1b : (rs == []) = false := by simpa using h1
  by_cases h2 : 1000000 < body.length
  · have HE : Hid (encodeV n fs body bare close = none) := by show _ = _; unfold encodeV; rw [if_pos (.inr (.inl h2))]
    have h2z : (1000000 : Int) < (body.length : Int) := by omega
    go_wp2
    go_ret2
    exact ⟨by rw [HE.out]; rfl, HB0.out⟩
  have h2z : (body.length : Int) ≤ 1000000 := by omega
  by_cases h3 : n = 204 ∧ body ≠ []
  · have HE : Hid (encodeV n fs body bare close = none) := by show _ = _; unfold encodeV; rw [if_pos (.inr (.inr h3))]
    obtain ⟨h3a, h3b⟩ := h3
    subst h3a
    have h3c : (body == []) = false := by simpa using h3b
    go_wp2
    go_ret2
    exact ⟨by rw [HE.out]; rfl, HB0.out⟩
  have HNO : Hid (fs.any badF = true → encodeV n fs body bare close = none) := fun hb => by
    unfold encodeV
    rw [if_neg (by rw [HRS.out]; exact fun h => h.elim h1 (fun h => h.elim h2 h3)), if_pos hb]
  have HYES : Hid (fs.any badF = false → encodeV n fs body bare close = some (headT n ++ fs.flatMap fieldT ++ (if n ≠ 204 then clT ++ Lib.itoa body.length ++ endL else []) ++ (if close then connT else []) ++ endL ++ (if bare then [] else body))) := fun hb => by
    unfold encodeV
    rw [if_neg (by rw [HRS.out]; exact fun h => h.elim h1 (fun h => h.elim h2 h3)), if_neg (by simp [hb])]
  have h3' : (n == 204 && body != []) = false := by
    rw [Bool.eq_false_iff]
    intro h
    simp only [Bool.and_eq_true, beq_iff_eq, bne_iff_ne] at h
    exact h3 h
  go_upto_region 2 with (fail)
  go_cut [29] (fun s29 wx => s29 = .bool false ∧ wx = w1)
  case first =>
    have h2d : decide ((1000000 : Int) < (body.length : Int)) = false := decide_eq_false (by omega)
    by_cases hn : n = 204
    · have hnb : (n == 204) = true := by simp [hn]
      have hbe : body = [] := by
        by_cases hb : body = []
        · exact hb
        · exact absurd ⟨hn, hb⟩ h3
      have hbb : (body == []) = true := by simp [hbe]
      clear h3 h3' hn
      go_wp2_with fail
      go_meet
      exact ⟨rfl, rfl⟩
    · have hnb : (n == 204) = false := by simp [hn]
      clear h3 h3' hn
      go_wp2_with fail
      go_meet
      exact ⟨rfl, rfl⟩
  obtain ⟨rfl, rfl⟩ := hcut
  have E0 : Hid (EncAt wc (wc.alloc (.cells #[.pointer none, .slice none 0 0] 70)) [] 0) := ⟨⟨_, WrAt.new _ _ rfl, below_alloc (Below.refl _ _) (Nat.le_refl _) _⟩, Nat.le_refl _⟩
  have GC : Hid (Glob (wc.alloc (.cells #[.pointer none, .slice none 0 0] 70))) := HG.out.later (HB0.out.trans (E0.out.below.mono HB0.out.size))
  have hrl := HRL.out
  rw [HRS.out] at hrl
  have hil := HII.out
  obtain ⟨H, hH⟩ : ∃ x, headT n = x := ⟨_, rfl⟩
  have HHT : Hid ([72, 84, 84, 80, 47, 49, 46, 49, 32] ++ Lib.itoa n ++ [32] ++ rs ++ [13, 10] = H) := by show _ = _; rw [← hH]; unfold headT; rw [HRS.out]
  rw [hH] at HYES
  generalize Lib.itoa n = it at *
  have HRZ := Lib.hid hrl
  have HIZ := Lib.hid hil
  clear h1 h1b h2 h2z h3 h3' hH
  have z0 : (wc.alloc (.cells #[.pointer none, .slice none 0 0] 70)).cell? ⟨w.heap.size, 0, none⟩ = some (.int .i64 n) := cell_later E0.out.below q0
  go_wp2_with fail
  refine (HIT.out _ GC.out).mono ?_
  rintro e w3 ⟨rfl, hb⟩
  have E3 := Lib.hid (E0.out.later hb)
  have b0 : w3.cell? ⟨w.heap.size, 0, none⟩ = some (.int .i64 n) := cell_later E3.out.below p0.out
  have b1 : w3.cell? ⟨w.heap.size, 1, none⟩ = some (.slice a fs.length c) := cell_later E3.out.below p1.out
  clear hb z0 E0 GC HIT q0 q1 q2 q3 q4
  go_wp2_with fail
  (try simp only [str_app])
  refine (encWrite E3.out _ (by simp only [List.length_append, List.length_cons, List.length_nil]; omega)).mono ?_
  rintro e w4 ⟨rfl, h4⟩
  have E1 : Hid (EncAt wc w4 H 1000) := h4.eq (by rw [List.nil_append]; exact HHT.out) (by simp only [List.length_append, List.length_cons, List.length_nil]; omega)
  clear h4 E3 hrl hil b0 b1 HHT HIZ HRZ
  have q0 : w4.cell? ⟨w.heap.size, 0, none⟩ = some (.int .i64 n) := cell_later E1.out.below p0.out
  have q1 : w4.cell? ⟨w.heap.size, 1, none⟩ = some (.slice a fs.length c) := cell_later E1.out.below p1.out
  go_wp2_with fail
  go_loopg [7, 8, 42] fs.length (fun gg _ _ s42 wr => ∃ i : Nat, i ≤ fs.length ∧ fs.length - i ≤ gg ∧ s42 = .int .i64 i ∧ Hid ((fs.take i).any badF = false) ∧ Hid (EncAt wc wr (H ++ (fs.take i).flatMap fieldT) (1000 + ((fs.take i).flatMap fieldT).length)))
  case atStart => exact ⟨0, Nat.zero_le _, by omega, rfl, (show Hid _ from by show _ = _; simp), (show Hid _ from by show EncAt _ _ _ _; simpa using E1.out)⟩
  case round =>
    obtain ⟨i, hin, hg, rfl, NB, EW⟩ := hrel
    have b0 : wr.cell? ⟨w.heap.size, 0, none⟩ = some (.int .i64 n) := cell_later EW.out.below p0.out
    have b1 : wr.cell? ⟨w.heap.size, 1, none⟩ = some (.slice a fs.length c) := cell_later EW.out.below p1.out
    have b2 : wr.cell? ⟨w.heap.size, 2, none⟩ = some (.string ⟨body.toArray⟩) := cell_later EW.out.below p2.out
    have b3 : wr.cell? ⟨w.heap.size, 3, none⟩ = some (.bool bare) := cell_later EW.out.below p3.out
    have b4 : wr.cell? ⟨w.heap.size, 4, none⟩ = some (.bool close) := cell_later EW.out.below p4.out
    by_cases hlt : i < fs.length
    · have hltz : (i : Int) < (fs.length : Int) := by omega
      obtain ⟨f, hif⟩ : ∃ f, fs[i]? = some f := ⟨_, List.getElem?_eq_getElem hlt⟩
      obtain ⟨b, off, rfl, k0, k1⟩ := HC.out i f hif
      have hmem := List.mem_of_getElem? hif
      have htk : fs.take (i + 1) = fs.take i ++ [f] := by rw [List.take_add_one, hif]; rfl
      have HTK : Hid ((fs.take (i + 1)).flatMap fieldT = (fs.take i).flatMap fieldT ++ fieldT f) := by show _ = _; rw [htk, List.flatMap_append]; simp
      have HLI : Hid (((fs.take i).flatMap fieldT).length + f.1.length + f.2.length + 4 ≤ 1000000000) := by
        show _ ≤ _
        have h2 : fs.flatMap fieldT = (fs.take (i + 1)).flatMap fieldT ++ (fs.drop (i + 1)).flatMap fieldT := by rw [← List.flatMap_append, List.take_append_drop]
        have h3 := HLF.out
        rw [h2, HTK.out] at h3
        simp only [List.length_append, fieldT, List.length_cons, List.length_nil] at h3
        omega
      have ENN : Hid (badF f = true → encodeV n fs body bare close = none) := fun hbf => HNO.out (List.any_eq_true.2 ⟨f, hmem, hbf⟩)
      have HNB : Hid (badF f = false → Hid ((fs.take (i + 1)).any badF = false)) := fun hbf => by show _ = _; rw [htk, List.any_append, NB.out]; simp [hbf]
      have hl1 : f.1.length ≤ 1000000000 := by have := HLI.out; omega
      have hl2 : f.2.length ≤ 1000000000 := by have := HLI.out; omega
      have e0 : wr.cell? ⟨b, off + i * 2, none⟩ = some (.string ⟨f.1.toArray⟩) := cell_later (HB0.out.trans (EW.out.below.mono HB0.out.size)) k0
      have e1 : wr.cell? ⟨b, off + i * 2 + 1, none⟩ = some (.string ⟨f.2.toArray⟩) := cell_later (HB0.out.trans (EW.out.below.mono HB0.out.size)) k1
      have hwx : ∃ wx, wr.alloc (.cells #[.string ⟨f.1.toArray⟩, .string ⟨f.2.toArray⟩] 58) = wx := ⟨_, rfl⟩
      have HNM := Lib.hid (fun W => isName_any f.1 (by omega) W)
      have HOW := Lib.hid (fun W => own_any f.1 (by omega) W)
      have HCV := Lib.hid (fun W => Lib.run_convert_string_bytes (P := Tryz.prog) W 9 41 5 ⟨f.2.toArray⟩ (u := .string) Tryz.underlying9 Tryz.underlying41 Tryz.underlying5)
      have HHI := Lib.hid (fun W cp => hidden_any f.2 (by omega) W cp)
      have HTR := Lib.hid (fun W => trim1_any f.2 (by omega) W)
      obtain ⟨nm, vl⟩ := f
      simp only at HNM HOW HCV HHI HTR hl1 hl2 e0 e1 hwx HLI
      have HBE : Hid (badF (nm, vl) = (!allB nm nameB || ownB nm || vl.any hiddenB || Lib.trimB vl 32 != vl)) := rfl
      obtain ⟨x1, hx1⟩ : ∃ x, allB nm nameB = x := ⟨_, rfl⟩
      obtain ⟨x2, hx2⟩ : ∃ x, ownB nm = x := ⟨_, rfl⟩
      obtain ⟨x3, hx3⟩ : ∃ x, vl.any hiddenB = x := ⟨_, rfl⟩
      obtain ⟨z, hz⟩ : ∃ z, (Lib.trimB vl 32 != vl) = z := ⟨_, rfl⟩
      rw [hx1, hx2, hx3, hz] at HBE
      rw [hx1] at HNM
      rw [hx2] at HOW
      rw [hx3] at HHI
      have HZ := Lib.hid hz
      generalize Lib.trimB vl 32 = tv at *
      clear hx1 hx2 hx3 hz k0 k1 hmem htk hif
      obtain ⟨wx, hwx⟩ := hwx
      have q1 : wx.cell? ⟨wr.heap.size, 0, none⟩ = some (.string ⟨nm.toArray⟩) := by rw [← hwx]; exact cell_new _ _ _ _ _ _ rfl rfl
      have q2 : wx.cell? ⟨wr.heap.size, 1, none⟩ = some (.string ⟨vl.toArray⟩) := by rw [← hwx]; exact cell_new _ _ _ _ _ _ rfl rfl
      have EX : Hid (EncAt wc wx (H ++ (fs.take i).flatMap fieldT) (1000 + ((fs.take i).flatMap fieldT).length)) := EW.out.later (by rw [← hwx]; exact below_alloc (Below.refl _ _) (Nat.le_refl _) _)
      have Q1 := Lib.hid q1
      have Q2 := Lib.hid q2
      clear q1 q2
      go_upto_region 10 with (fail)
      have q1 := Q1.out
      have q2 := Q2.out
      cases x1
      · have HBD : Hid (badF (nm, vl) = true) := by show _ = _; rw [HBE.out]; rfl
        refine wp_region_held_drew (S := (fun W : World => W.cell? ⟨wr.heap.size, 0, none⟩ = some (.string ⟨nm.toArray⟩) ∧ W.cell? ⟨wr.heap.size, 1, none⟩ = some (.string ⟨vl.toArray⟩) ∧ Below wx.heap.size wx W)) (by kernel_rfl) ⟨q1, q2, Below.drew (Below.refl _ _)⟩ (fun hS0 => ?_)
        refine wpAnyH_take (i := 0) (oi := { dst := some 46, op := _, type := _, pos := _, after := _, guard := _ }) (v := ?_) rfl (by kernel_rfl) (by kernel_rfl) (by kernel_rfl) (fun _ _ _ h => h) (Or.inl ⟨by kernel_rfl, ?_⟩) (by assumption) ?_
        rotate_left
        · (intro w hSw; (try dsimp only at hSw); go_simp); all_goals (with_reducible rfl)
        try simp only [Act.put, List.setIfInBounds_toArray, List.set_cons_zero, List.set_cons_succ]
        refine wpAnyH_take (i := 1) (oi := { dst := some 47, op := _, type := _, pos := _, after := _, guard := _ }) (v := ?_) rfl (by kernel_rfl) (by kernel_rfl) (by kernel_rfl) (fun _ _ _ h => h) (Or.inl ⟨by kernel_rfl, ?_⟩) (by assumption) ?_
        rotate_left
        · (intro w hSw; (try dsimp only at hSw); (have h1 := hSw.1); (have h2 := hSw.2.1); go_simp); all_goals (with_reducible rfl)
        try simp only [Act.put, List.setIfInBounds_toArray, List.set_cons_zero, List.set_cons_succ]
        refine wpAnyH_ready (rs := [2]) (by kernel_rfl) (by simp) ?_
        refine (AllReadyH.cons (o := { dst := some 48, op := _, type := _, pos := _, after := _, guard := _ }) rfl (fun K hK => ?_) AllReadyH.nil)
        rw [if_pos (by kernel_rfl)]
        refine wp_call_go Tryz.func39 (by kernel_rfl) (by kernel_rfl) (by rfl) (HNM.out _) (by rfl) ?_
        rintro e w' ⟨rfl, hb⟩
        refine ⟨_, rfl, ?_⟩
        refine hK.out _ w' ⟨cell_later hb hS0.1, cell_later hb hS0.2.1, hS0.2.2.trans (hb.mono hS0.2.2.size)⟩ (fun hS1 => ?_)
        clear hK K
        try simp only [Act.put, List.setIfInBounds_toArray, List.set_cons_zero, List.set_cons_succ]
        refine wpAnyH_take (i := 3) (oi := { dst := some 49, op := _, type := _, pos := _, after := _, guard := _ }) (v := ?_) rfl (by kernel_rfl) (by kernel_rfl) (by kernel_rfl) (fun _ _ _ h => h) (Or.inl ⟨by kernel_rfl, ?_⟩) (by assumption) ?_
        rotate_left
        · (intro w hSw; (try dsimp only at hSw); go_simp); all_goals (with_reducible rfl)
        try simp only [Act.put, List.setIfInBounds_toArray, List.set_cons_zero, List.set_cons_succ]
        refine wpAnyH_take (i := 4) (oi := { dst := some 50, op := _, type := _, pos := _, after := _, guard := _ }) (v := ?_) rfl (by kernel_rfl) (by kernel_rfl) (by kernel_rfl) (fun _ _ _ h => h) (Or.inl ⟨by kernel_rfl, ?_⟩) (by assumption) ?_
        rotate_left
        · (intro w hSw; (try dsimp only at hSw); go_simp); all_goals (with_reducible rfl)
        try simp only [Act.put, List.setIfInBounds_toArray, List.set_cons_zero, List.set_cons_succ]
        refine wpAnyH_take (i := 5) (oi := { dst := some 51, op := _, type := _, pos := _, after := _, guard := _ }) (v := undef) rfl (by kernel_rfl) (by kernel_rfl) (by kernel_rfl) (fun _ _ _ h => h) (Or.inr ⟨by kernel_rfl, rfl⟩) (by assumption) ?_
        try simp only [Act.put, List.setIfInBounds_toArray, List.set_cons_zero, List.set_cons_succ]
        refine wpAnyH_take (i := 6) (oi := { dst := some 52, op := _, type := _, pos := _, after := _, guard := _ }) (v := undef) rfl (by kernel_rfl) (by kernel_rfl) (by kernel_rfl) (fun _ _ _ h => h) (Or.inr ⟨by kernel_rfl, rfl⟩) (by assumption) ?_
        try simp only [Act.put, List.setIfInBounds_toArray, List.set_cons_zero, List.set_cons_succ]
        refine wpAnyH_take (i := 7) (oi := { dst := some 53, op := _, type := _, pos := _, after := _, guard := _ }) (v := undef) rfl (by kernel_rfl) (by kernel_rfl) (by kernel_rfl) (fun _ _ _ h => h) (Or.inr ⟨by kernel_rfl, rfl⟩) (by assumption) ?_
        try simp only [Act.put, List.setIfInBounds_toArray, List.set_cons_zero, List.set_cons_succ]
        refine wpAnyH_take (i := 8) (oi := { dst := some 54, op := _, type := _, pos := _, after := _, guard := _ }) (v := ?_) rfl (by kernel_rfl) (by kernel_rfl) (by kernel_rfl) (fun _ _ _ h => h) (Or.inl ⟨by kernel_rfl, ?_⟩) (by assumption) ?_
        rotate_left
        · (intro w hSw; (try dsimp only at hSw); go_simp); all_goals (with_reducible rfl)
        try simp only [Act.put, List.setIfInBounds_toArray, List.set_cons_zero, List.set_cons_succ]
        refine wpAnyH_take (i := 9) (oi := { dst := some 55, op := _, type := _, pos := _, after := _, guard := _ }) (v := ?_) rfl (by kernel_rfl) (by kernel_rfl) (by kernel_rfl) (fun _ _ _ h => h) (Or.inl ⟨by kernel_rfl, ?_⟩) (by assumption) ?_
        rotate_left
        · (intro w hSw; (try dsimp only at hSw); go_simp); all_goals (with_reducible rfl)
        try simp only [Act.put, List.setIfInBounds_toArray, List.set_cons_zero, List.set_cons_succ]
        refine wpAnyH_take (i := 10) (oi := { dst := some 56, op := _, type := _, pos := _, after := _, guard := _ }) (v := undef) rfl (by kernel_rfl) (by kernel_rfl) (by kernel_rfl) (fun _ _ _ h => h) (Or.inr ⟨by kernel_rfl, rfl⟩) (by assumption) ?_
        try simp only [Act.put, List.setIfInBounds_toArray, List.set_cons_zero, List.set_cons_succ]
        refine wpAnyH_take (i := 11) (oi := { dst := some 57, op := _, type := _, pos := _, after := _, guard := _ }) (v := undef) rfl (by kernel_rfl) (by kernel_rfl) (by kernel_rfl) (fun _ _ _ h => h) (Or.inr ⟨by kernel_rfl, rfl⟩) (by assumption) ?_
        try simp only [Act.put, List.setIfInBounds_toArray, List.set_cons_zero, List.set_cons_succ]
        refine wpAnyH_take (i := 12) (oi := { dst := some 58, op := _, type := _, pos := _, after := _, guard := _ }) (v := undef) rfl (by kernel_rfl) (by kernel_rfl) (by kernel_rfl) (fun _ _ _ h => h) (Or.inr ⟨by kernel_rfl, rfl⟩) (by assumption) ?_
        try simp only [Act.put, List.setIfInBounds_toArray, List.set_cons_zero, List.set_cons_succ]
        refine wpAnyH_take (i := 13) (oi := { dst := some 59, op := _, type := _, pos := _, after := _, guard := _ }) (v := undef) rfl (by kernel_rfl) (by kernel_rfl) (by kernel_rfl) (fun _ _ _ h => h) (Or.inr ⟨by kernel_rfl, rfl⟩) (by assumption) ?_
        try simp only [Act.put, List.setIfInBounds_toArray, List.set_cons_zero, List.set_cons_succ]
        refine wpAnyH_take (i := 14) (oi := { dst := some 60, op := _, type := _, pos := _, after := _, guard := _ }) (v := undef) rfl (by kernel_rfl) (by kernel_rfl) (by kernel_rfl) (fun _ _ _ h => h) (Or.inr ⟨by kernel_rfl, rfl⟩) (by assumption) ?_
        try simp only [Act.put, List.setIfInBounds_toArray, List.set_cons_zero, List.set_cons_succ]
        refine wpAnyH_take (i := 15) (oi := { dst := some 61, op := _, type := _, pos := _, after := _, guard := _ }) (v := ?_) rfl (by kernel_rfl) (by kernel_rfl) (by kernel_rfl) (fun _ _ _ h => h) (Or.inl ⟨by kernel_rfl, ?_⟩) (by assumption) ?_
        rotate_left
        · (intro w hSw; (try dsimp only at hSw); go_simp); all_goals (with_reducible rfl)
        try simp only [Act.put, List.setIfInBounds_toArray, List.set_cons_zero, List.set_cons_succ]
        refine wpAnyH_take (i := 16) (oi := { dst := some 62, op := _, type := _, pos := _, after := _, guard := _ }) (v := ?_) rfl (by kernel_rfl) (by kernel_rfl) (by kernel_rfl) (fun _ _ _ h => h) (Or.inl ⟨by kernel_rfl, ?_⟩) (by assumption) ?_
        rotate_left
        · (intro w hSw; (try dsimp only at hSw); go_simp); all_goals (with_reducible rfl)
        try simp only [Act.put, List.setIfInBounds_toArray, List.set_cons_zero, List.set_cons_succ]
        refine wpAnyH_take (i := 17) (oi := { dst := some 63, op := _, type := _, pos := _, after := _, guard := _ }) (v := undef) rfl (by kernel_rfl) (by kernel_rfl) (by kernel_rfl) (fun _ _ _ h => h) (Or.inr ⟨by kernel_rfl, rfl⟩) (by assumption) ?_
        try simp only [Act.put, List.setIfInBounds_toArray, List.set_cons_zero, List.set_cons_succ]
        refine wpAnyH_take (i := 18) (oi := { dst := some 64, op := _, type := _, pos := _, after := _, guard := _ }) (v := undef) rfl (by kernel_rfl) (by kernel_rfl) (by kernel_rfl) (fun _ _ _ h => h) (Or.inr ⟨by kernel_rfl, rfl⟩) (by assumption) ?_
        try simp only [Act.put, List.setIfInBounds_toArray, List.set_cons_zero, List.set_cons_succ]
        refine wpAnyH_take (i := 19) (oi := { dst := some 65, op := _, type := _, pos := _, after := _, guard := _ }) (v := undef) rfl (by kernel_rfl) (by kernel_rfl) (by kernel_rfl) (fun _ _ _ h => h) (Or.inr ⟨by kernel_rfl, rfl⟩) (by assumption) ?_
        try simp only [Act.put, List.setIfInBounds_toArray, List.set_cons_zero, List.set_cons_succ]
        refine wpAnyH_take (i := 20) (oi := { dst := some 66, op := _, type := _, pos := _, after := _, guard := _ }) (v := undef) rfl (by kernel_rfl) (by kernel_rfl) (by kernel_rfl) (fun _ _ _ h => h) (Or.inr ⟨by kernel_rfl, rfl⟩) (by assumption) ?_
        try simp only [Act.put, List.setIfInBounds_toArray, List.set_cons_zero, List.set_cons_succ]
        refine wpAnyH_take (i := 21) (oi := { dst := some 67, op := _, type := _, pos := _, after := _, guard := _ }) (v := undef) rfl (by kernel_rfl) (by kernel_rfl) (by kernel_rfl) (fun _ _ _ h => h) (Or.inr ⟨by kernel_rfl, rfl⟩) (by assumption) ?_
        try simp only [Act.put, List.setIfInBounds_toArray, List.set_cons_zero, List.set_cons_succ]
        refine wpAnyH_take (i := 22) (oi := { dst := some 68, op := _, type := _, pos := _, after := _, guard := _ }) (v := undef) rfl (by kernel_rfl) (by kernel_rfl) (by kernel_rfl) (fun _ _ _ h => h) (Or.inr ⟨by kernel_rfl, rfl⟩) (by assumption) ?_
        try simp only [Act.put, List.setIfInBounds_toArray, List.set_cons_zero, List.set_cons_succ]
        refine wpAnyH_take (i := 23) (oi := { dst := some 69, op := _, type := _, pos := _, after := _, guard := _ }) (v := ?_) rfl (by kernel_rfl) (by kernel_rfl) (by kernel_rfl) (fun _ _ _ h => h) (Or.inl ⟨by kernel_rfl, ?_⟩) (by assumption) ?_
        rotate_left
        · (intro w hSw; (try dsimp only at hSw); go_simp); all_goals (with_reducible rfl)
        try simp only [Act.put, List.setIfInBounds_toArray, List.set_cons_zero, List.set_cons_succ]
        refine wpAnyH_done (by kernel_rfl) ?_ _
        have hfin := hS1
        have HFIN := Lib.hid hfin
        clear hfin
        go_wp2_with fail
        go_ret2
        exact ⟨by rw [ENN.out HBD.out]; rfl, HB0.out.trans ((EX.out.later HFIN.out.2.2).below.mono HB0.out.size)⟩
      · cases x2
        · cases x3
          · have HBD : Hid (badF (nm, vl) = z) := by show _ = _; rw [HBE.out]; rfl
            refine wp_region_held_drew (S := (fun W : World => W.cell? ⟨wr.heap.size, 0, none⟩ = some (.string ⟨nm.toArray⟩) ∧ W.cell? ⟨wr.heap.size, 1, none⟩ = some (.string ⟨vl.toArray⟩) ∧ Below wx.heap.size wx W)) (by kernel_rfl) ⟨q1, q2, Below.drew (Below.refl _ _)⟩ (fun hS0 => ?_)
            refine wpAnyH_take (i := 0) (oi := { dst := some 46, op := _, type := _, pos := _, after := _, guard := _ }) (v := ?_) rfl (by kernel_rfl) (by kernel_rfl) (by kernel_rfl) (fun _ _ _ h => h) (Or.inl ⟨by kernel_rfl, ?_⟩) (by assumption) ?_
            rotate_left
            · (intro w hSw; (try dsimp only at hSw); go_simp); all_goals (with_reducible rfl)
            try simp only [Act.put, List.setIfInBounds_toArray, List.set_cons_zero, List.set_cons_succ]
            refine wpAnyH_take (i := 1) (oi := { dst := some 47, op := _, type := _, pos := _, after := _, guard := _ }) (v := ?_) rfl (by kernel_rfl) (by kernel_rfl) (by kernel_rfl) (fun _ _ _ h => h) (Or.inl ⟨by kernel_rfl, ?_⟩) (by assumption) ?_
            rotate_left
            · (intro w hSw; (try dsimp only at hSw); (have h1 := hSw.1); (have h2 := hSw.2.1); go_simp); all_goals (with_reducible rfl)
            try simp only [Act.put, List.setIfInBounds_toArray, List.set_cons_zero, List.set_cons_succ]
            refine wpAnyH_ready (rs := [2]) (by kernel_rfl) (by simp) ?_
            refine (AllReadyH.cons (o := { dst := some 48, op := _, type := _, pos := _, after := _, guard := _ }) rfl (fun K hK => ?_) AllReadyH.nil)
            rw [if_pos (by kernel_rfl)]
            refine wp_call_go Tryz.func39 (by kernel_rfl) (by kernel_rfl) (by rfl) (HNM.out _) (by rfl) ?_
            rintro e w' ⟨rfl, hb⟩
            refine ⟨_, rfl, ?_⟩
            refine hK.out _ w' ⟨cell_later hb hS0.1, cell_later hb hS0.2.1, hS0.2.2.trans (hb.mono hS0.2.2.size)⟩ (fun hS1 => ?_)
            clear hK K
            try simp only [Act.put, List.setIfInBounds_toArray, List.set_cons_zero, List.set_cons_succ]
            refine wpAnyH_take (i := 3) (oi := { dst := some 49, op := _, type := _, pos := _, after := _, guard := _ }) (v := ?_) rfl (by kernel_rfl) (by kernel_rfl) (by kernel_rfl) (fun _ _ _ h => h) (Or.inl ⟨by kernel_rfl, ?_⟩) (by assumption) ?_
            rotate_left
            · (intro w hSw; (try dsimp only at hSw); go_simp); all_goals (with_reducible rfl)
            try simp only [Act.put, List.setIfInBounds_toArray, List.set_cons_zero, List.set_cons_succ]
            refine wpAnyH_take (i := 4) (oi := { dst := some 50, op := _, type := _, pos := _, after := _, guard := _ }) (v := ?_) rfl (by kernel_rfl) (by kernel_rfl) (by kernel_rfl) (fun _ _ _ h => h) (Or.inl ⟨by kernel_rfl, ?_⟩) (by assumption) ?_
            rotate_left
            · (intro w hSw; (try dsimp only at hSw); go_simp); all_goals (with_reducible rfl)
            try simp only [Act.put, List.setIfInBounds_toArray, List.set_cons_zero, List.set_cons_succ]
            refine wpAnyH_take (i := 5) (oi := { dst := some 51, op := _, type := _, pos := _, after := _, guard := _ }) (v := ?_) rfl (by kernel_rfl) (by kernel_rfl) (by kernel_rfl) (fun _ _ _ h => h) (Or.inl ⟨by kernel_rfl, ?_⟩) (by assumption) ?_
            rotate_left
            · (intro w hSw; (try dsimp only at hSw); go_simp); all_goals (with_reducible rfl)
            try simp only [Act.put, List.setIfInBounds_toArray, List.set_cons_zero, List.set_cons_succ]
            refine wpAnyH_take (i := 6) (oi := { dst := some 52, op := _, type := _, pos := _, after := _, guard := _ }) (v := ?_) rfl (by kernel_rfl) (by kernel_rfl) (by kernel_rfl) (fun _ _ _ h => h) (Or.inl ⟨by kernel_rfl, ?_⟩) (by assumption) ?_
            rotate_left
            · (intro w hSw; (try dsimp only at hSw); (have h1 := hSw.1); (have h2 := hSw.2.1); go_simp); all_goals (with_reducible rfl)
            try simp only [Act.put, List.setIfInBounds_toArray, List.set_cons_zero, List.set_cons_succ]
            refine wpAnyH_ready (rs := [7]) (by kernel_rfl) (by simp) ?_
            refine (AllReadyH.cons (o := { dst := some 53, op := _, type := _, pos := _, after := _, guard := _ }) rfl (fun K hK => ?_) AllReadyH.nil)
            rw [if_pos (by kernel_rfl)]
            refine wp_call_go Tryz.func40 (by kernel_rfl) (by kernel_rfl) (by rfl) (HOW.out _) (by rfl) ?_
            rintro e w' ⟨rfl, hb⟩
            refine ⟨_, rfl, ?_⟩
            refine hK.out _ w' ⟨cell_later hb hS1.1, cell_later hb hS1.2.1, hS1.2.2.trans (hb.mono hS1.2.2.size)⟩ (fun hS2 => ?_)
            clear hK K
            try simp only [Act.put, List.setIfInBounds_toArray, List.set_cons_zero, List.set_cons_succ]
            refine wpAnyH_take (i := 8) (oi := { dst := some 54, op := _, type := _, pos := _, after := _, guard := _ }) (v := ?_) rfl (by kernel_rfl) (by kernel_rfl) (by kernel_rfl) (fun _ _ _ h => h) (Or.inl ⟨by kernel_rfl, ?_⟩) (by assumption) ?_
            rotate_left
            · (intro w hSw; (try dsimp only at hSw); go_simp); all_goals (with_reducible rfl)
            try simp only [Act.put, List.setIfInBounds_toArray, List.set_cons_zero, List.set_cons_succ]
            refine wpAnyH_take (i := 9) (oi := { dst := some 55, op := _, type := _, pos := _, after := _, guard := _ }) (v := ?_) rfl (by kernel_rfl) (by kernel_rfl) (by kernel_rfl) (fun _ _ _ h => h) (Or.inl ⟨by kernel_rfl, ?_⟩) (by assumption) ?_
            rotate_left
            · (intro w hSw; (try dsimp only at hSw); go_simp); all_goals (with_reducible rfl)
            try simp only [Act.put, List.setIfInBounds_toArray, List.set_cons_zero, List.set_cons_succ]
            refine wpAnyH_take (i := 10) (oi := { dst := some 56, op := _, type := _, pos := _, after := _, guard := _ }) (v := ?_) rfl (by kernel_rfl) (by kernel_rfl) (by kernel_rfl) (fun _ _ _ h => h) (Or.inl ⟨by kernel_rfl, ?_⟩) (by assumption) ?_
            rotate_left
            · (intro w hSw; (try dsimp only at hSw); go_simp); all_goals (with_reducible rfl)
            try simp only [Act.put, List.setIfInBounds_toArray, List.set_cons_zero, List.set_cons_succ]
            refine wpAnyH_take (i := 11) (oi := { dst := some 57, op := _, type := _, pos := _, after := _, guard := _ }) (v := ?_) rfl (by kernel_rfl) (by kernel_rfl) (by kernel_rfl) (fun _ _ _ h => h) (Or.inl ⟨by kernel_rfl, ?_⟩) (by assumption) ?_
            rotate_left
            · (intro w hSw; (try dsimp only at hSw); (have h1 := hSw.1); (have h2 := hSw.2.1); go_simp); all_goals (with_reducible rfl)
            try simp only [Act.put, List.setIfInBounds_toArray, List.set_cons_zero, List.set_cons_succ]
            refine wpAnyH_take (i := 13) (oi := { dst := some 59, op := _, type := _, pos := _, after := _, guard := _ }) (v := ?_) rfl (by kernel_rfl) (by kernel_rfl) (by kernel_rfl) (fun _ _ _ h => h) (Or.inl ⟨by kernel_rfl, ?_⟩) (by assumption) ?_
            rotate_left
            · (intro w hSw; (try dsimp only at hSw); go_simp); all_goals (with_reducible rfl)
            try simp only [Act.put, List.setIfInBounds_toArray, List.set_cons_zero, List.set_cons_succ]
            refine wpAnyH_ready (rs := [12]) (by kernel_rfl) (by simp) ?_
            refine (AllReadyH.cons (o := { dst := some 58, op := _, type := _, pos := _, after := _, guard := _ }) rfl (fun K hK => ?_) AllReadyH.nil)
            rw [if_pos (by kernel_rfl)]
            refine wp_convert_go _ _ _ rfl (HCV.out _) ?_
            refine hK.out _ _ ⟨cell_later (below_bytesWorld _ _ _) hS2.1, cell_later (below_bytesWorld _ _ _) hS2.2.1, hS2.2.2.trans ((below_bytesWorld _ _ _).mono hS2.2.2.size)⟩ (fun hS3 => ?_)
            clear hK K
            try simp only [Act.put, List.setIfInBounds_toArray, List.set_cons_zero, List.set_cons_succ]
            refine wpAnyH_ready (rs := [14]) (by kernel_rfl) (by simp) ?_
            refine (AllReadyH.cons (o := { dst := some 60, op := _, type := _, pos := _, after := _, guard := _ }) rfl (fun K hK => ?_) AllReadyH.nil)
            rw [if_pos (by kernel_rfl)]
            refine wp_call_go Tryz.func41 (by kernel_rfl) (by kernel_rfl) (by rfl) (HHI.out _ _) (by rfl) ?_
            rintro e w' ⟨rfl, hb⟩
            refine ⟨_, rfl, ?_⟩
            refine hK.out _ w' ⟨cell_later hb hS3.1, cell_later hb hS3.2.1, hS3.2.2.trans (hb.mono hS3.2.2.size)⟩ (fun hS4 => ?_)
            clear hK K
            try simp only [Act.put, List.setIfInBounds_toArray, List.set_cons_zero, List.set_cons_succ]
            refine wpAnyH_take (i := 15) (oi := { dst := some 61, op := _, type := _, pos := _, after := _, guard := _ }) (v := ?_) rfl (by kernel_rfl) (by kernel_rfl) (by kernel_rfl) (fun _ _ _ h => h) (Or.inl ⟨by kernel_rfl, ?_⟩) (by assumption) ?_
            rotate_left
            · (intro w hSw; (try dsimp only at hSw); go_simp); all_goals (with_reducible rfl)
            try simp only [Act.put, List.setIfInBounds_toArray, List.set_cons_zero, List.set_cons_succ]
            refine wpAnyH_take (i := 16) (oi := { dst := some 62, op := _, type := _, pos := _, after := _, guard := _ }) (v := ?_) rfl (by kernel_rfl) (by kernel_rfl) (by kernel_rfl) (fun _ _ _ h => h) (Or.inl ⟨by kernel_rfl, ?_⟩) (by assumption) ?_
            rotate_left
            · (intro w hSw; (try dsimp only at hSw); go_simp); all_goals (with_reducible rfl)
            try simp only [Act.put, List.setIfInBounds_toArray, List.set_cons_zero, List.set_cons_succ]
            refine wpAnyH_take (i := 17) (oi := { dst := some 63, op := _, type := _, pos := _, after := _, guard := _ }) (v := ?_) rfl (by kernel_rfl) (by kernel_rfl) (by kernel_rfl) (fun _ _ _ h => h) (Or.inl ⟨by kernel_rfl, ?_⟩) (by assumption) ?_
            rotate_left
            · (intro w hSw; (try dsimp only at hSw); go_simp); all_goals (with_reducible rfl)
            try simp only [Act.put, List.setIfInBounds_toArray, List.set_cons_zero, List.set_cons_succ]
            refine wpAnyH_take (i := 18) (oi := { dst := some 64, op := _, type := _, pos := _, after := _, guard := _ }) (v := ?_) rfl (by kernel_rfl) (by kernel_rfl) (by kernel_rfl) (fun _ _ _ h => h) (Or.inl ⟨by kernel_rfl, ?_⟩) (by assumption) ?_
            rotate_left
            · (intro w hSw; (try dsimp only at hSw); (have h1 := hSw.1); (have h2 := hSw.2.1); go_simp); all_goals (with_reducible rfl)
            try simp only [Act.put, List.setIfInBounds_toArray, List.set_cons_zero, List.set_cons_succ]
            refine wpAnyH_take (i := 20) (oi := { dst := some 66, op := _, type := _, pos := _, after := _, guard := _ }) (v := ?_) rfl (by kernel_rfl) (by kernel_rfl) (by kernel_rfl) (fun _ _ _ h => h) (Or.inl ⟨by kernel_rfl, ?_⟩) (by assumption) ?_
            rotate_left
            · (intro w hSw; (try dsimp only at hSw); go_simp); all_goals (with_reducible rfl)
            try simp only [Act.put, List.setIfInBounds_toArray, List.set_cons_zero, List.set_cons_succ]
            refine wpAnyH_take (i := 21) (oi := { dst := some 67, op := _, type := _, pos := _, after := _, guard := _ }) (v := ?_) rfl (by kernel_rfl) (by kernel_rfl) (by kernel_rfl) (fun _ _ _ h => h) (Or.inl ⟨by kernel_rfl, ?_⟩) (by assumption) ?_
            rotate_left
            · (intro w hSw; (try dsimp only at hSw); (have h1 := hSw.1); (have h2 := hSw.2.1); go_simp); all_goals (with_reducible rfl)
            try simp only [Act.put, List.setIfInBounds_toArray, List.set_cons_zero, List.set_cons_succ]
            refine wpAnyH_ready (rs := [19]) (by kernel_rfl) (by simp) ?_
            refine (AllReadyH.cons (o := { dst := some 65, op := _, type := _, pos := _, after := _, guard := _ }) rfl (fun K hK => ?_) AllReadyH.nil)
            rw [if_pos (by kernel_rfl)]
            refine wp_call_go Tryz.func42 (by kernel_rfl) (by kernel_rfl) (by rfl) (HTR.out _) (by rfl) ?_
            rintro e w' ⟨rfl, hb⟩
            refine ⟨_, rfl, ?_⟩
            refine hK.out _ w' ⟨cell_later hb hS4.1, cell_later hb hS4.2.1, hS4.2.2.trans (hb.mono hS4.2.2.size)⟩ (fun hS5 => ?_)
            clear hK K
            try simp only [Act.put, List.setIfInBounds_toArray, List.set_cons_zero, List.set_cons_succ]
            refine wpAnyH_take (i := 22) (oi := { dst := some 68, op := _, type := _, pos := _, after := _, guard := _ }) (v := ?_) rfl (by kernel_rfl) (by kernel_rfl) (by kernel_rfl) (fun _ _ _ h => h) (Or.inl ⟨by kernel_rfl, ?_⟩) (by assumption) ?_
            rotate_left
            · (intro w hSw; (try dsimp only at hSw); go_simp); all_goals (with_reducible rfl)
            try simp only [Act.put, List.setIfInBounds_toArray, List.set_cons_zero, List.set_cons_succ]
            refine wpAnyH_take (i := 23) (oi := { dst := some 69, op := _, type := _, pos := _, after := _, guard := _ }) (v := ?_) rfl (by kernel_rfl) (by kernel_rfl) (by kernel_rfl) (fun _ _ _ h => h) (Or.inl ⟨by kernel_rfl, ?_⟩) (by assumption) ?_
            rotate_left
            · (intro w hSw; (try dsimp only at hSw); go_simp); all_goals (with_reducible rfl)
            try simp only [Act.put, List.setIfInBounds_toArray, List.set_cons_zero, List.set_cons_succ]
            refine wpAnyH_done (by kernel_rfl) ?_ _
            have hfin := hS5
            cases z
            · have hz := HZ.out
              rw [bne_eq_false_iff_eq] at hz
              subst hz
              clear HZ
              simp only [beq_self_eq_true, Bool.not_true]
              have HFIN := Lib.hid hfin
              have E2 := Lib.hid (EX.out.later HFIN.out.2.2)
              have r1 := HFIN.out.1
              have r2 := HFIN.out.2.1
              clear hfin
              go_wp2_with fail
              (first | rw [str4] | simp only [str_app])
              refine (encWrite E2.out _ (by have := HLI.out; simp only [List.length_append, List.length_cons, List.length_nil]; omega)).mono ?_
              rintro e w5 ⟨rfl, h5⟩
              have E5 := Lib.hid h5
              clear h5
              go_wp2
              go_roundg (fs.length - (i + 1))
              case measure => omega
              case rel => exact ⟨i + 1, by omega, by omega, by go_num, HNB.out HBD.out, (by rw [HTK.out]; exact E5.out.eq (by simp [fieldT]) (by simp [fieldT]; omega))⟩
            · have hz1 : ¬ tv = vl := by have := HZ.out; rw [bne_iff_ne] at this; exact this
              have hz2 : (tv == vl) = false := by rw [beq_eq_false_iff_ne]; exact hz1
              simp only [hz2, Bool.not_false]
              have HFIN := Lib.hid hfin
              clear hfin
              go_wp2_with fail
              go_ret2
              exact ⟨by rw [ENN.out HBD.out]; rfl, HB0.out.trans ((EX.out.later HFIN.out.2.2).below.mono HB0.out.size)⟩
          · have HBD : Hid (badF (nm, vl) = true) := by show _ = _; rw [HBE.out]; rfl
            refine wp_region_held_drew (S := (fun W : World => W.cell? ⟨wr.heap.size, 0, none⟩ = some (.string ⟨nm.toArray⟩) ∧ W.cell? ⟨wr.heap.size, 1, none⟩ = some (.string ⟨vl.toArray⟩) ∧ Below wx.heap.size wx W)) (by kernel_rfl) ⟨q1, q2, Below.drew (Below.refl _ _)⟩ (fun hS0 => ?_)
            refine wpAnyH_take (i := 0) (oi := { dst := some 46, op := _, type := _, pos := _, after := _, guard := _ }) (v := ?_) rfl (by kernel_rfl) (by kernel_rfl) (by kernel_rfl) (fun _ _ _ h => h) (Or.inl ⟨by kernel_rfl, ?_⟩) (by assumption) ?_
            rotate_left
            · (intro w hSw; (try dsimp only at hSw); go_simp); all_goals (with_reducible rfl)
            try simp only [Act.put, List.setIfInBounds_toArray, List.set_cons_zero, List.set_cons_succ]
            refine wpAnyH_take (i := 1) (oi := { dst := some 47, op := _, type := _, pos := _, after := _, guard := _ }) (v := ?_) rfl (by kernel_rfl) (by kernel_rfl) (by kernel_rfl) (fun _ _ _ h => h) (Or.inl ⟨by kernel_rfl, ?_⟩) (by assumption) ?_
            rotate_left
            · (intro w hSw; (try dsimp only at hSw); (have h1 := hSw.1); (have h2 := hSw.2.1); go_simp); all_goals (with_reducible rfl)
            try simp only [Act.put, List.setIfInBounds_toArray, List.set_cons_zero, List.set_cons_succ]
            refine wpAnyH_ready (rs := [2]) (by kernel_rfl) (by simp) ?_
            refine (AllReadyH.cons (o := { dst := some 48, op := _, type := _, pos := _, after := _, guard := _ }) rfl (fun K hK => ?_) AllReadyH.nil)
            rw [if_pos (by kernel_rfl)]
            refine wp_call_go Tryz.func39 (by kernel_rfl) (by kernel_rfl) (by rfl) (HNM.out _) (by rfl) ?_
            rintro e w' ⟨rfl, hb⟩
            refine ⟨_, rfl, ?_⟩
            refine hK.out _ w' ⟨cell_later hb hS0.1, cell_later hb hS0.2.1, hS0.2.2.trans (hb.mono hS0.2.2.size)⟩ (fun hS1 => ?_)
            clear hK K
            try simp only [Act.put, List.setIfInBounds_toArray, List.set_cons_zero, List.set_cons_succ]
            refine wpAnyH_take (i := 3) (oi := { dst := some 49, op := _, type := _, pos := _, after := _, guard := _ }) (v := ?_) rfl (by kernel_rfl) (by kernel_rfl) (by kernel_rfl) (fun _ _ _ h => h) (Or.inl ⟨by kernel_rfl, ?_⟩) (by assumption) ?_
            rotate_left
            · (intro w hSw; (try dsimp only at hSw); go_simp); all_goals (with_reducible rfl)
            try simp only [Act.put, List.setIfInBounds_toArray, List.set_cons_zero, List.set_cons_succ]
            refine wpAnyH_take (i := 4) (oi := { dst := some 50, op := _, type := _, pos := _, after := _, guard := _ }) (v := ?_) rfl (by kernel_rfl) (by kernel_rfl) (by kernel_rfl) (fun _ _ _ h => h) (Or.inl ⟨by kernel_rfl, ?_⟩) (by assumption) ?_
            rotate_left
            · (intro w hSw; (try dsimp only at hSw); go_simp); all_goals (with_reducible rfl)
            try simp only [Act.put, List.setIfInBounds_toArray, List.set_cons_zero, List.set_cons_succ]
            refine wpAnyH_take (i := 5) (oi := { dst := some 51, op := _, type := _, pos := _, after := _, guard := _ }) (v := ?_) rfl (by kernel_rfl) (by kernel_rfl) (by kernel_rfl) (fun _ _ _ h => h) (Or.inl ⟨by kernel_rfl, ?_⟩) (by assumption) ?_
            rotate_left
            · (intro w hSw; (try dsimp only at hSw); go_simp); all_goals (with_reducible rfl)
            try simp only [Act.put, List.setIfInBounds_toArray, List.set_cons_zero, List.set_cons_succ]
            refine wpAnyH_take (i := 6) (oi := { dst := some 52, op := _, type := _, pos := _, after := _, guard := _ }) (v := ?_) rfl (by kernel_rfl) (by kernel_rfl) (by kernel_rfl) (fun _ _ _ h => h) (Or.inl ⟨by kernel_rfl, ?_⟩) (by assumption) ?_
            rotate_left
            · (intro w hSw; (try dsimp only at hSw); (have h1 := hSw.1); (have h2 := hSw.2.1); go_simp); all_goals (with_reducible rfl)
            try simp only [Act.put, List.setIfInBounds_toArray, List.set_cons_zero, List.set_cons_succ]
            refine wpAnyH_ready (rs := [7]) (by kernel_rfl) (by simp) ?_
            refine (AllReadyH.cons (o := { dst := some 53, op := _, type := _, pos := _, after := _, guard := _ }) rfl (fun K hK => ?_) AllReadyH.nil)
            rw [if_pos (by kernel_rfl)]
            refine wp_call_go Tryz.func40 (by kernel_rfl) (by kernel_rfl) (by rfl) (HOW.out _) (by rfl) ?_
            rintro e w' ⟨rfl, hb⟩
            refine ⟨_, rfl, ?_⟩
            refine hK.out _ w' ⟨cell_later hb hS1.1, cell_later hb hS1.2.1, hS1.2.2.trans (hb.mono hS1.2.2.size)⟩ (fun hS2 => ?_)
            clear hK K
            try simp only [Act.put, List.setIfInBounds_toArray, List.set_cons_zero, List.set_cons_succ]
            refine wpAnyH_take (i := 8) (oi := { dst := some 54, op := _, type := _, pos := _, after := _, guard := _ }) (v := ?_) rfl (by kernel_rfl) (by kernel_rfl) (by kernel_rfl) (fun _ _ _ h => h) (Or.inl ⟨by kernel_rfl, ?_⟩) (by assumption) ?_
            rotate_left
            · (intro w hSw; (try dsimp only at hSw); go_simp); all_goals (with_reducible rfl)
            try simp only [Act.put, List.setIfInBounds_toArray, List.set_cons_zero, List.set_cons_succ]
            refine wpAnyH_take (i := 9) (oi := { dst := some 55, op := _, type := _, pos := _, after := _, guard := _ }) (v := ?_) rfl (by kernel_rfl) (by kernel_rfl) (by kernel_rfl) (fun _ _ _ h => h) (Or.inl ⟨by kernel_rfl, ?_⟩) (by assumption) ?_
            rotate_left
            · (intro w hSw; (try dsimp only at hSw); go_simp); all_goals (with_reducible rfl)
            try simp only [Act.put, List.setIfInBounds_toArray, List.set_cons_zero, List.set_cons_succ]
            refine wpAnyH_take (i := 10) (oi := { dst := some 56, op := _, type := _, pos := _, after := _, guard := _ }) (v := ?_) rfl (by kernel_rfl) (by kernel_rfl) (by kernel_rfl) (fun _ _ _ h => h) (Or.inl ⟨by kernel_rfl, ?_⟩) (by assumption) ?_
            rotate_left
            · (intro w hSw; (try dsimp only at hSw); go_simp); all_goals (with_reducible rfl)
            try simp only [Act.put, List.setIfInBounds_toArray, List.set_cons_zero, List.set_cons_succ]
            refine wpAnyH_take (i := 11) (oi := { dst := some 57, op := _, type := _, pos := _, after := _, guard := _ }) (v := ?_) rfl (by kernel_rfl) (by kernel_rfl) (by kernel_rfl) (fun _ _ _ h => h) (Or.inl ⟨by kernel_rfl, ?_⟩) (by assumption) ?_
            rotate_left
            · (intro w hSw; (try dsimp only at hSw); (have h1 := hSw.1); (have h2 := hSw.2.1); go_simp); all_goals (with_reducible rfl)
            try simp only [Act.put, List.setIfInBounds_toArray, List.set_cons_zero, List.set_cons_succ]
            refine wpAnyH_take (i := 13) (oi := { dst := some 59, op := _, type := _, pos := _, after := _, guard := _ }) (v := ?_) rfl (by kernel_rfl) (by kernel_rfl) (by kernel_rfl) (fun _ _ _ h => h) (Or.inl ⟨by kernel_rfl, ?_⟩) (by assumption) ?_
            rotate_left
            · (intro w hSw; (try dsimp only at hSw); go_simp); all_goals (with_reducible rfl)
            try simp only [Act.put, List.setIfInBounds_toArray, List.set_cons_zero, List.set_cons_succ]
            refine wpAnyH_ready (rs := [12]) (by kernel_rfl) (by simp) ?_
            refine (AllReadyH.cons (o := { dst := some 58, op := _, type := _, pos := _, after := _, guard := _ }) rfl (fun K hK => ?_) AllReadyH.nil)
            rw [if_pos (by kernel_rfl)]
            refine wp_convert_go _ _ _ rfl (HCV.out _) ?_
            refine hK.out _ _ ⟨cell_later (below_bytesWorld _ _ _) hS2.1, cell_later (below_bytesWorld _ _ _) hS2.2.1, hS2.2.2.trans ((below_bytesWorld _ _ _).mono hS2.2.2.size)⟩ (fun hS3 => ?_)
            clear hK K
            try simp only [Act.put, List.setIfInBounds_toArray, List.set_cons_zero, List.set_cons_succ]
            refine wpAnyH_ready (rs := [14]) (by kernel_rfl) (by simp) ?_
            refine (AllReadyH.cons (o := { dst := some 60, op := _, type := _, pos := _, after := _, guard := _ }) rfl (fun K hK => ?_) AllReadyH.nil)
            rw [if_pos (by kernel_rfl)]
            refine wp_call_go Tryz.func41 (by kernel_rfl) (by kernel_rfl) (by rfl) (HHI.out _ _) (by rfl) ?_
            rintro e w' ⟨rfl, hb⟩
            refine ⟨_, rfl, ?_⟩
            refine hK.out _ w' ⟨cell_later hb hS3.1, cell_later hb hS3.2.1, hS3.2.2.trans (hb.mono hS3.2.2.size)⟩ (fun hS4 => ?_)
            clear hK K
            try simp only [Act.put, List.setIfInBounds_toArray, List.set_cons_zero, List.set_cons_succ]
            refine wpAnyH_take (i := 15) (oi := { dst := some 61, op := _, type := _, pos := _, after := _, guard := _ }) (v := ?_) rfl (by kernel_rfl) (by kernel_rfl) (by kernel_rfl) (fun _ _ _ h => h) (Or.inl ⟨by kernel_rfl, ?_⟩) (by assumption) ?_
            rotate_left
            · (intro w hSw; (try dsimp only at hSw); go_simp); all_goals (with_reducible rfl)
            try simp only [Act.put, List.setIfInBounds_toArray, List.set_cons_zero, List.set_cons_succ]
            refine wpAnyH_take (i := 16) (oi := { dst := some 62, op := _, type := _, pos := _, after := _, guard := _ }) (v := ?_) rfl (by kernel_rfl) (by kernel_rfl) (by kernel_rfl) (fun _ _ _ h => h) (Or.inl ⟨by kernel_rfl, ?_⟩) (by assumption) ?_
            rotate_left
            · (intro w hSw; (try dsimp only at hSw); go_simp); all_goals (with_reducible rfl)
            try simp only [Act.put, List.setIfInBounds_toArray, List.set_cons_zero, List.set_cons_succ]
            refine wpAnyH_take (i := 17) (oi := { dst := some 63, op := _, type := _, pos := _, after := _, guard := _ }) (v := undef) rfl (by kernel_rfl) (by kernel_rfl) (by kernel_rfl) (fun _ _ _ h => h) (Or.inr ⟨by kernel_rfl, rfl⟩) (by assumption) ?_
            try simp only [Act.put, List.setIfInBounds_toArray, List.set_cons_zero, List.set_cons_succ]
            refine wpAnyH_take (i := 18) (oi := { dst := some 64, op := _, type := _, pos := _, after := _, guard := _ }) (v := undef) rfl (by kernel_rfl) (by kernel_rfl) (by kernel_rfl) (fun _ _ _ h => h) (Or.inr ⟨by kernel_rfl, rfl⟩) (by assumption) ?_
            try simp only [Act.put, List.setIfInBounds_toArray, List.set_cons_zero, List.set_cons_succ]
            refine wpAnyH_take (i := 19) (oi := { dst := some 65, op := _, type := _, pos := _, after := _, guard := _ }) (v := undef) rfl (by kernel_rfl) (by kernel_rfl) (by kernel_rfl) (fun _ _ _ h => h) (Or.inr ⟨by kernel_rfl, rfl⟩) (by assumption) ?_
            try simp only [Act.put, List.setIfInBounds_toArray, List.set_cons_zero, List.set_cons_succ]
            refine wpAnyH_take (i := 20) (oi := { dst := some 66, op := _, type := _, pos := _, after := _, guard := _ }) (v := undef) rfl (by kernel_rfl) (by kernel_rfl) (by kernel_rfl) (fun _ _ _ h => h) (Or.inr ⟨by kernel_rfl, rfl⟩) (by assumption) ?_
            try simp only [Act.put, List.setIfInBounds_toArray, List.set_cons_zero, List.set_cons_succ]
            refine wpAnyH_take (i := 21) (oi := { dst := some 67, op := _, type := _, pos := _, after := _, guard := _ }) (v := undef) rfl (by kernel_rfl) (by kernel_rfl) (by kernel_rfl) (fun _ _ _ h => h) (Or.inr ⟨by kernel_rfl, rfl⟩) (by assumption) ?_
            try simp only [Act.put, List.setIfInBounds_toArray, List.set_cons_zero, List.set_cons_succ]
            refine wpAnyH_take (i := 22) (oi := { dst := some 68, op := _, type := _, pos := _, after := _, guard := _ }) (v := undef) rfl (by kernel_rfl) (by kernel_rfl) (by kernel_rfl) (fun _ _ _ h => h) (Or.inr ⟨by kernel_rfl, rfl⟩) (by assumption) ?_
            try simp only [Act.put, List.setIfInBounds_toArray, List.set_cons_zero, List.set_cons_succ]
            refine wpAnyH_take (i := 23) (oi := { dst := some 69, op := _, type := _, pos := _, after := _, guard := _ }) (v := ?_) rfl (by kernel_rfl) (by kernel_rfl) (by kernel_rfl) (fun _ _ _ h => h) (Or.inl ⟨by kernel_rfl, ?_⟩) (by assumption) ?_
            rotate_left
            · (intro w hSw; (try dsimp only at hSw); go_simp); all_goals (with_reducible rfl)
            try simp only [Act.put, List.setIfInBounds_toArray, List.set_cons_zero, List.set_cons_succ]
            refine wpAnyH_done (by kernel_rfl) ?_ _
            have hfin := hS4
            have HFIN := Lib.hid hfin
            clear hfin
            go_wp2_with fail
            go_ret2
            exact ⟨by rw [ENN.out HBD.out]; rfl, HB0.out.trans ((EX.out.later HFIN.out.2.2).below.mono HB0.out.size)⟩
        · have HBD : Hid (badF (nm, vl) = true) := by show _ = _; rw [HBE.out]; rfl
          refine wp_region_held_drew (S := (fun W : World => W.cell? ⟨wr.heap.size, 0, none⟩ = some (.string ⟨nm.toArray⟩) ∧ W.cell? ⟨wr.heap.size, 1, none⟩ = some (.string ⟨vl.toArray⟩) ∧ Below wx.heap.size wx W)) (by kernel_rfl) ⟨q1, q2, Below.drew (Below.refl _ _)⟩ (fun hS0 => ?_)
          refine wpAnyH_take (i := 0) (oi := { dst := some 46, op := _, type := _, pos := _, after := _, guard := _ }) (v := ?_) rfl (by kernel_rfl) (by kernel_rfl) (by kernel_rfl) (fun _ _ _ h => h) (Or.inl ⟨by kernel_rfl, ?_⟩) (by assumption) ?_
          rotate_left
          · (intro w hSw; (try dsimp only at hSw); go_simp); all_goals (with_reducible rfl)
          try simp only [Act.put, List.setIfInBounds_toArray, List.set_cons_zero, List.set_cons_succ]
          refine wpAnyH_take (i := 1) (oi := { dst := some 47, op := _, type := _, pos := _, after := _, guard := _ }) (v := ?_) rfl (by kernel_rfl) (by kernel_rfl) (by kernel_rfl) (fun _ _ _ h => h) (Or.inl ⟨by kernel_rfl, ?_⟩) (by assumption) ?_
          rotate_left
          · (intro w hSw; (try dsimp only at hSw); (have h1 := hSw.1); (have h2 := hSw.2.1); go_simp); all_goals (with_reducible rfl)
          try simp only [Act.put, List.setIfInBounds_toArray, List.set_cons_zero, List.set_cons_succ]
          refine wpAnyH_ready (rs := [2]) (by kernel_rfl) (by simp) ?_
          refine (AllReadyH.cons (o := { dst := some 48, op := _, type := _, pos := _, after := _, guard := _ }) rfl (fun K hK => ?_) AllReadyH.nil)
          rw [if_pos (by kernel_rfl)]
          refine wp_call_go Tryz.func39 (by kernel_rfl) (by kernel_rfl) (by rfl) (HNM.out _) (by rfl) ?_
          rintro e w' ⟨rfl, hb⟩
          refine ⟨_, rfl, ?_⟩
          refine hK.out _ w' ⟨cell_later hb hS0.1, cell_later hb hS0.2.1, hS0.2.2.trans (hb.mono hS0.2.2.size)⟩ (fun hS1 => ?_)
          clear hK K
          try simp only [Act.put, List.setIfInBounds_toArray, List.set_cons_zero, List.set_cons_succ]
          refine wpAnyH_take (i := 3) (oi := { dst := some 49, op := _, type := _, pos := _, after := _, guard := _ }) (v := ?_) rfl (by kernel_rfl) (by kernel_rfl) (by kernel_rfl) (fun _ _ _ h => h) (Or.inl ⟨by kernel_rfl, ?_⟩) (by assumption) ?_
          rotate_left
          · (intro w hSw; (try dsimp only at hSw); go_simp); all_goals (with_reducible rfl)
          try simp only [Act.put, List.setIfInBounds_toArray, List.set_cons_zero, List.set_cons_succ]
          refine wpAnyH_take (i := 4) (oi := { dst := some 50, op := _, type := _, pos := _, after := _, guard := _ }) (v := ?_) rfl (by kernel_rfl) (by kernel_rfl) (by kernel_rfl) (fun _ _ _ h => h) (Or.inl ⟨by kernel_rfl, ?_⟩) (by assumption) ?_
          rotate_left
          · (intro w hSw; (try dsimp only at hSw); go_simp); all_goals (with_reducible rfl)
          try simp only [Act.put, List.setIfInBounds_toArray, List.set_cons_zero, List.set_cons_succ]
          refine wpAnyH_take (i := 5) (oi := { dst := some 51, op := _, type := _, pos := _, after := _, guard := _ }) (v := ?_) rfl (by kernel_rfl) (by kernel_rfl) (by kernel_rfl) (fun _ _ _ h => h) (Or.inl ⟨by kernel_rfl, ?_⟩) (by assumption) ?_
          rotate_left
          · (intro w hSw; (try dsimp only at hSw); go_simp); all_goals (with_reducible rfl)
          try simp only [Act.put, List.setIfInBounds_toArray, List.set_cons_zero, List.set_cons_succ]
          refine wpAnyH_take (i := 6) (oi := { dst := some 52, op := _, type := _, pos := _, after := _, guard := _ }) (v := ?_) rfl (by kernel_rfl) (by kernel_rfl) (by kernel_rfl) (fun _ _ _ h => h) (Or.inl ⟨by kernel_rfl, ?_⟩) (by assumption) ?_
          rotate_left
          · (intro w hSw; (try dsimp only at hSw); (have h1 := hSw.1); (have h2 := hSw.2.1); go_simp); all_goals (with_reducible rfl)
          try simp only [Act.put, List.setIfInBounds_toArray, List.set_cons_zero, List.set_cons_succ]
          refine wpAnyH_ready (rs := [7]) (by kernel_rfl) (by simp) ?_
          refine (AllReadyH.cons (o := { dst := some 53, op := _, type := _, pos := _, after := _, guard := _ }) rfl (fun K hK => ?_) AllReadyH.nil)
          rw [if_pos (by kernel_rfl)]
          refine wp_call_go Tryz.func40 (by kernel_rfl) (by kernel_rfl) (by rfl) (HOW.out _) (by rfl) ?_
          rintro e w' ⟨rfl, hb⟩
          refine ⟨_, rfl, ?_⟩
          refine hK.out _ w' ⟨cell_later hb hS1.1, cell_later hb hS1.2.1, hS1.2.2.trans (hb.mono hS1.2.2.size)⟩ (fun hS2 => ?_)
          clear hK K
          try simp only [Act.put, List.setIfInBounds_toArray, List.set_cons_zero, List.set_cons_succ]
          refine wpAnyH_take (i := 8) (oi := { dst := some 54, op := _, type := _, pos := _, after := _, guard := _ }) (v := ?_) rfl (by kernel_rfl) (by kernel_rfl) (by kernel_rfl) (fun _ _ _ h => h) (Or.inl ⟨by kernel_rfl, ?_⟩) (by assumption) ?_
          rotate_left
          · (intro w hSw; (try dsimp only at hSw); go_simp); all_goals (with_reducible rfl)
          try simp only [Act.put, List.setIfInBounds_toArray, List.set_cons_zero, List.set_cons_succ]
          refine wpAnyH_take (i := 9) (oi := { dst := some 55, op := _, type := _, pos := _, after := _, guard := _ }) (v := ?_) rfl (by kernel_rfl) (by kernel_rfl) (by kernel_rfl) (fun _ _ _ h => h) (Or.inl ⟨by kernel_rfl, ?_⟩) (by assumption) ?_
          rotate_left
          · (intro w hSw; (try dsimp only at hSw); go_simp); all_goals (with_reducible rfl)
          try simp only [Act.put, List.setIfInBounds_toArray, List.set_cons_zero, List.set_cons_succ]
          refine wpAnyH_take (i := 10) (oi := { dst := some 56, op := _, type := _, pos := _, after := _, guard := _ }) (v := undef) rfl (by kernel_rfl) (by kernel_rfl) (by kernel_rfl) (fun _ _ _ h => h) (Or.inr ⟨by kernel_rfl, rfl⟩) (by assumption) ?_
          try simp only [Act.put, List.setIfInBounds_toArray, List.set_cons_zero, List.set_cons_succ]
          refine wpAnyH_take (i := 11) (oi := { dst := some 57, op := _, type := _, pos := _, after := _, guard := _ }) (v := undef) rfl (by kernel_rfl) (by kernel_rfl) (by kernel_rfl) (fun _ _ _ h => h) (Or.inr ⟨by kernel_rfl, rfl⟩) (by assumption) ?_
          try simp only [Act.put, List.setIfInBounds_toArray, List.set_cons_zero, List.set_cons_succ]
          refine wpAnyH_take (i := 12) (oi := { dst := some 58, op := _, type := _, pos := _, after := _, guard := _ }) (v := undef) rfl (by kernel_rfl) (by kernel_rfl) (by kernel_rfl) (fun _ _ _ h => h) (Or.inr ⟨by kernel_rfl, rfl⟩) (by assumption) ?_
          try simp only [Act.put, List.setIfInBounds_toArray, List.set_cons_zero, List.set_cons_succ]
          refine wpAnyH_take (i := 13) (oi := { dst := some 59, op := _, type := _, pos := _, after := _, guard := _ }) (v := undef) rfl (by kernel_rfl) (by kernel_rfl) (by kernel_rfl) (fun _ _ _ h => h) (Or.inr ⟨by kernel_rfl, rfl⟩) (by assumption) ?_
          try simp only [Act.put, List.setIfInBounds_toArray, List.set_cons_zero, List.set_cons_succ]
          refine wpAnyH_take (i := 14) (oi := { dst := some 60, op := _, type := _, pos := _, after := _, guard := _ }) (v := undef) rfl (by kernel_rfl) (by kernel_rfl) (by kernel_rfl) (fun _ _ _ h => h) (Or.inr ⟨by kernel_rfl, rfl⟩) (by assumption) ?_
          try simp only [Act.put, List.setIfInBounds_toArray, List.set_cons_zero, List.set_cons_succ]
          refine wpAnyH_take (i := 15) (oi := { dst := some 61, op := _, type := _, pos := _, after := _, guard := _ }) (v := ?_) rfl (by kernel_rfl) (by kernel_rfl) (by kernel_rfl) (fun _ _ _ h => h) (Or.inl ⟨by kernel_rfl, ?_⟩) (by assumption) ?_
          rotate_left
          · (intro w hSw; (try dsimp only at hSw); go_simp); all_goals (with_reducible rfl)
          try simp only [Act.put, List.setIfInBounds_toArray, List.set_cons_zero, List.set_cons_succ]
          refine wpAnyH_take (i := 16) (oi := { dst := some 62, op := _, type := _, pos := _, after := _, guard := _ }) (v := ?_) rfl (by kernel_rfl) (by kernel_rfl) (by kernel_rfl) (fun _ _ _ h => h) (Or.inl ⟨by kernel_rfl, ?_⟩) (by assumption) ?_
          rotate_left
          · (intro w hSw; (try dsimp only at hSw); go_simp); all_goals (with_reducible rfl)
          try simp only [Act.put, List.setIfInBounds_toArray, List.set_cons_zero, List.set_cons_succ]
          refine wpAnyH_take (i := 17) (oi := { dst := some 63, op := _, type := _, pos := _, after := _, guard := _ }) (v := undef) rfl (by kernel_rfl) (by kernel_rfl) (by kernel_rfl) (fun _ _ _ h => h) (Or.inr ⟨by kernel_rfl, rfl⟩) (by assumption) ?_
          try simp only [Act.put, List.setIfInBounds_toArray, List.set_cons_zero, List.set_cons_succ]
          refine wpAnyH_take (i := 18) (oi := { dst := some 64, op := _, type := _, pos := _, after := _, guard := _ }) (v := undef) rfl (by kernel_rfl) (by kernel_rfl) (by kernel_rfl) (fun _ _ _ h => h) (Or.inr ⟨by kernel_rfl, rfl⟩) (by assumption) ?_
          try simp only [Act.put, List.setIfInBounds_toArray, List.set_cons_zero, List.set_cons_succ]
          refine wpAnyH_take (i := 19) (oi := { dst := some 65, op := _, type := _, pos := _, after := _, guard := _ }) (v := undef) rfl (by kernel_rfl) (by kernel_rfl) (by kernel_rfl) (fun _ _ _ h => h) (Or.inr ⟨by kernel_rfl, rfl⟩) (by assumption) ?_
          try simp only [Act.put, List.setIfInBounds_toArray, List.set_cons_zero, List.set_cons_succ]
          refine wpAnyH_take (i := 20) (oi := { dst := some 66, op := _, type := _, pos := _, after := _, guard := _ }) (v := undef) rfl (by kernel_rfl) (by kernel_rfl) (by kernel_rfl) (fun _ _ _ h => h) (Or.inr ⟨by kernel_rfl, rfl⟩) (by assumption) ?_
          try simp only [Act.put, List.setIfInBounds_toArray, List.set_cons_zero, List.set_cons_succ]
          refine wpAnyH_take (i := 21) (oi := { dst := some 67, op := _, type := _, pos := _, after := _, guard := _ }) (v := undef) rfl (by kernel_rfl) (by kernel_rfl) (by kernel_rfl) (fun _ _ _ h => h) (Or.inr ⟨by kernel_rfl, rfl⟩) (by assumption) ?_
          try simp only [Act.put, List.setIfInBounds_toArray, List.set_cons_zero, List.set_cons_succ]
          refine wpAnyH_take (i := 22) (oi := { dst := some 68, op := _, type := _, pos := _, after := _, guard := _ }) (v := undef) rfl (by kernel_rfl) (by kernel_rfl) (by kernel_rfl) (fun _ _ _ h => h) (Or.inr ⟨by kernel_rfl, rfl⟩) (by assumption) ?_
          try simp only [Act.put, List.setIfInBounds_toArray, List.set_cons_zero, List.set_cons_succ]
          refine wpAnyH_take (i := 23) (oi := { dst := some 69, op := _, type := _, pos := _, after := _, guard := _ }) (v := ?_) rfl (by kernel_rfl) (by kernel_rfl) (by kernel_rfl) (fun _ _ _ h => h) (Or.inl ⟨by kernel_rfl, ?_⟩) (by assumption) ?_
          rotate_left
          · (intro w hSw; (try dsimp only at hSw); go_simp); all_goals (with_reducible rfl)
          try simp only [Act.put, List.setIfInBounds_toArray, List.set_cons_zero, List.set_cons_succ]
          refine wpAnyH_done (by kernel_rfl) ?_ _
          have hfin := hS2
          have HFIN := Lib.hid hfin
          clear hfin
          go_wp2_with fail
          go_ret2
          exact ⟨by rw [ENN.out HBD.out]; rfl, HB0.out.trans ((EX.out.later HFIN.out.2.2).below.mono HB0.out.size)⟩
    · have he : i = fs.length := by omega
      subst he
      rw [List.take_length] at NB EW
      have HTX : Hid (encodeV n fs body bare close = some (H ++ fs.flatMap fieldT ++ (if n ≠ 204 then clT ++ Lib.itoa body.length ++ endL else []) ++ (if close then connT else []) ++ endL ++ (if bare then [] else body))) := HYES.out NB.out
      have HNE : Hid (H ++ fs.flatMap fieldT ++ (if n ≠ 204 then clT ++ Lib.itoa body.length ++ endL else []) ++ (if close then connT else []) ++ endL ++ (if bare then [] else body) ≠ []) := by
        intro h0
        simp [endL] at h0
      have HFL : Hid ((fs.flatMap fieldT).length ≤ 1000000000) := HLF.out
      have HIL : Hid ((Lib.itoa (body.length : Int)).length ≤ 30) := itoa_len30 _ ⟨by omega, by omega⟩
      generalize fs.flatMap fieldT = F at *
      clear HYES HNO NB HC
      have HFB := HFL.out
      obtain ⟨w0, rfl⟩ : ∃ wx : World, wx = wc := ⟨_, rfl⟩
      have EA : Hid (EncAt w0 wr (H ++ F) 1000001000) := EW.out.eq rfl (by omega)
      clear EW
      go_upto_if 81 with (fail)
      go_cut [] (fun wx => Hid (EncAt w0 wx (H ++ F ++ (if n ≠ 204 then clT ++ Lib.itoa body.length ++ endL else [])) 1000001100))
      case first =>
        by_cases hn : n = 204
        · have hnb : (n != 204) = false := by simp [hn]
          have HN := Lib.hid hn
          clear hn
          go_wp2_with fail
          go_meet
          case rel => exact EA.out.eq (by simp [HN.out]) (by omega)
        · have hnb : (n != 204) = true := by simp [hn]
          have HN := Lib.hid hn
          clear hn
          go_wp2_with fail
          refine (itoa_any _ ⟨by omega, by omega⟩ _ (HG.out.later (HB0.out.trans (EA.out.below.mono HB0.out.size)))).mono ?_
          rintro e w_i ⟨rfl, h_i⟩
          have EI := Lib.hid (EA.out.later h_i)
          have hil2 := HIL.out
          obtain ⟨ib, hib⟩ : ∃ x, Lib.itoa (body.length : Int) = x := ⟨_, rfl⟩
          have HIBQ := Lib.hid hib
          rw [hib] at hil2 ⊢
          clear h_i hib
          go_wp2_with fail
          (try rw [str3])
          refine (encWrite EI.out _ (by have h2 := hil2; (try simp only [List.length_append, List.length_cons, List.length_nil]); omega)).mono ?_
          rintro e w5 ⟨rfl, h5⟩
          have E5 := Lib.hid h5
          clear h5
          go_wp2_with fail
          go_meet
          case rel => exact E5.out.eq (by rw [HIBQ.out]; simp [clT, endL, HN.out]) (by have h2 := hil2; (try simp only [List.length_append, List.length_cons, List.length_nil]); omega)
      case rest =>
      obtain ⟨w1c, rfl⟩ : ∃ wx : World, wx = wc := ⟨_, rfl⟩
      have EB : Hid (EncAt w0 w1c (H ++ F ++ (if n ≠ 204 then clT ++ Lib.itoa body.length ++ endL else [])) 1000001100) := hcut
      clear hcut EA b0 b1 b2 b3 b4
      generalize H ++ F ++ (if n ≠ 204 then clT ++ Lib.itoa body.length ++ endL else []) = X1 at *
      have b4 : w1c.cell? ⟨w.heap.size, 4, none⟩ = some (.bool close) := cell_later EB.out.below p4.out
      go_upto_if 90 with (fail)
      go_cut [] (fun wx => Hid (EncAt w0 wx (X1 ++ (if close then connT else [])) 1000001200))
      case first =>
        cases close
        · go_wp2_with fail
          go_meet
          case rel => exact EB.out.eq (by simp) (by omega)
        · go_wp2_with fail
          refine (encWrite EB.out _ (by decide)).mono ?_
          rintro e w5 ⟨rfl, h5⟩
          have E5 := Lib.hid h5
          clear h5
          go_wp2_with fail
          go_meet
          case rel => exact E5.out.eq (by simp [connT]) (by decide)
      case rest =>
      obtain ⟨w2c, rfl⟩ : ∃ wx : World, wx = wc := ⟨_, rfl⟩
      have EC : Hid (EncAt w0 w2c (X1 ++ (if close then connT else [])) 1000001200) := hcut
      clear hcut EB b4
      generalize X1 ++ (if close then connT else []) = X2 at *
      go_wp2_with fail
      refine (encWrite EC.out _ (by decide)).mono ?_
      rintro e w3c ⟨rfl, h5⟩
      have ED : Hid (EncAt w0 w3c (X2 ++ endL) 1000001300) := h5.eq rfl (by decide)
      clear h5
      generalize X2 ++ endL = X3 at *
      have b2 : w3c.cell? ⟨w.heap.size, 2, none⟩ = some (.string ⟨body.toArray⟩) := cell_later ED.out.below p2.out
      have b3 : w3c.cell? ⟨w.heap.size, 3, none⟩ = some (.bool bare) := cell_later ED.out.below p3.out
      go_upto_if 95 with (fail)
      go_cut [] (fun wx => Hid (EncAt w0 wx (X3 ++ (if bare then [] else body)) 2000001300))
      case first =>
        cases bare
        · go_wp2_with fail
          refine (encWrite ED.out _ (by have := HBL.out; omega)).mono ?_
          rintro e w5 ⟨rfl, h5⟩
          have E5 := Lib.hid h5
          clear h5
          go_wp2_with fail
          go_meet
          case rel => exact E5.out.eq (by simp) (by have := HBL.out; omega)
        · go_wp2_with fail
          go_meet
          case rel => exact ED.out.eq (by simp) (by omega)
      case rest =>
      obtain ⟨w4c, rfl⟩ : ∃ wx : World, wx = wc := ⟨_, rfl⟩
      have EE : Hid (EncAt w0 w4c (X3 ++ (if bare then [] else body)) 2000001300) := hcut
      clear hcut ED b2 b3
      generalize X3 ++ (if bare then [] else body) = X4 at *
      obtain ⟨⟨v9, h9, h10⟩, _⟩ := EE.out
      have HB9 := Lib.hid h10
      have HS9 := Lib.hid (string_any _ _ _ v9 _ h9 HNE.out)
      clear h9 h10
      go_wp2_with fail
      refine HS9.out.mono ?_
      rintro e w_9 ⟨rfl, h_9⟩
      have B9 := Lib.hid (HB9.out.trans (h_9.mono (Nat.le_succ _)))
      clear h_9
      go_wp2
      go_ret2
      rw [HTX.out]
      exact ⟨rfl, HB0.out.trans (B9.out.mono HB0.out.size)⟩

end Go.Proofs.YtdilmefeofdkmaaGreatDoor
