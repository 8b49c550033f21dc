/-
  WIRE: a byte of the fields. (Printed by wip/gen/wifield.py.)
-/
import Derived.Test.YtdilmefeofdkmaaGreatDoorWiEnds
import Derived.Shelf.Strings.SlTrimAscii
namespace Go.Proofs.YtdilmefeofdkmaaGreatDoor
open Go.RowKit

theorem trimS_eq (l : List UInt8) : Lib.trimS l [32, 9] = trimL l := by
  unfold Lib.trimS Lib.trimLeftS Lib.trimRightS trimL
  have : (fun x : UInt8 => [32, 9].contains x) = blankB := by
    funext x
    unfold blankB
    simp only [List.contains_cons, List.contains_nil, Bool.or_false]
  rw [this]
theorem trim_any (l : List UInt8) (hl : l.length ≤ 140737488351232) (w : World) :
    Calls Tryz.prog 42 #[.string ⟨l.toArray⟩, .string ⟨#[32, 9]⟩] w fun e w' => e = .returned (.string ⟨(trimL l).toArray⟩) ∧ Below w.heap.size w w' := by
  have := Any.strings_Trim_laid Tryz.lays160 (by kernel_rfl) ⟨l.toArray⟩ ⟨#[32, 9]⟩ w (by simp [ByteArray.size]; omega) (by decide) (ascii_of_all (by decide))
  rwa [show Lib.trimS (⟨l.toArray⟩ : ByteArray).data.toList (⟨#[32, 9]⟩ : ByteArray).data.toList = trimL l from trimS_eq l] at this

theorem field_eq (s : RS) (b : UInt8) {line nm vl0 : List UInt8} {ok : Bool} (h1 : ¬ 8000 < s.head + 1) (hb : b = 10) (hl : trimCR s.line = line) (hc : cutAt 58 line = (nm, vl0, ok)) :
    s.field b = if line = [] then RS.ends ({ s with head := s.head + 1, line := [] } : RS) else if s.fields.length = 50 then (RS.fail ({ s with head := s.head + 1, line := [] } : RS) 67, []) else if (!ok || !allB nm nameB || (!vl0.isEmpty && !allB vl0 shownB)) = true then (RS.fail ({ s with head := s.head + 1, line := [] } : RS) 61, []) else ({ s with head := s.head + 1, line := [], fields := s.fields ++ [(smallL nm, trimL vl0)] }, []) := by
  have ht : s.counts = { s with head := s.head + 1 } := by unfold RS.counts; rw [if_neg h1]
  unfold RS.field
  simp only
  rw [if_neg h1, if_neg (by simp [hb]), ht]
  simp only [hl, hc]

set_option maxHeartbeats 4000000 in
set_option maxRecDepth 100000 in
theorem field_any {w : World} {rd : Nat} {ms : Own} {s : RS} {out : List ReqV} (h : RdrAt w rd ms s out) (b : UInt8) (hl : s.line.length ≤ 1000000000) (hh0 : 0 ≤ s.head) (hh1 : s.head ≤ 8000) (hfl : s.fields.length ≤ 1000000) (ho : out.length ≤ 1000000000) (hsh : ∀ f ∈ s.fields, f.2.length ≤ 140737488351232) :
    Calls Tryz.prog 78 #[.pointer (some ⟨rd, 0, none⟩), .int .u8 b.toNat] w fun x w' => x = .returned (.tuple #[]) ∧ RdPost w rd ms (s.field b).1 (out ++ (s.field b).2) w' := by
  obtain ⟨i0, hi, hz0, hz1, hz2⟩ := info_byte
  obtain ⟨j0, ji, jz0, jz1, jz2⟩ := info_pair
  have hb256 := b.toNat_lt
  have HC := Lib.hid (counts_any h hh0 hh1)
  clear h
  go_enter Tryz.func78, Tryz.ntmps78
  go_wp2_with fail
  refine HC.out.mono ?_
  rintro e w1 ⟨rfl, ms1, r1, m1⟩
  by_cases hc : 8000 < s.head + 1
  · have HR : Hid (s.field b = (s.counts, [])) := by show _ = _; unfold RS.field; simp only; rw [if_pos hc]
    have R1 := Lib.hid r1
    have M1 := Lib.hid m1
    have hd : decide (s.head + 1 ≤ 8000) = false := decide_eq_false (by omega)
    clear r1 m1 hc
    rw [hd]
    clear hd
    go_wp2_with fail
    first | go_end0 | (refine bodyPost_ret (results_none rfl _ _ _) rfl ?_)
    rw [HR.out, List.append_nil]
    exact ⟨rfl, ms1, R1.out, M1.out⟩
  · have hd : decide (s.head + 1 ≤ 8000) = true := decide_eq_true (by omega)
    have ht : s.counts = { s with head := s.head + 1 } := by unfold RS.counts; rw [if_neg hc]
    rw [ht] at r1
    rw [hd]
    clear hd
    by_cases hb : b = 10
    · subst hb
      have hlen := trimCR_len s.line
      have hcl := cutAt_len 58 (trimCR s.line)
      have HE := Lib.hid (ended_any r1 (by simp only; omega))
      have HCU : Hid (∀ W, Calls Tryz.prog 95 #[.string ⟨(trimCR s.line).toArray⟩, .string ⟨#[58]⟩] W fun e w' => e = .returned (.tuple #[.string ⟨(cutAt 58 (trimCR s.line)).1.toArray⟩, .string ⟨(cutAt 58 (trimCR s.line)).2.1.toArray⟩, .bool (cutAt 58 (trimCR s.line)).2.2]) ∧ Below W.heap.size W w') := fun W => cutL_any _ 58 W (by omega)
      obtain ⟨line, hln⟩ : ∃ l, trimCR s.line = l := ⟨_, rfl⟩
      obtain ⟨cc, hcc⟩ : ∃ c, cutAt 58 line = c := ⟨_, rfl⟩
      obtain ⟨nm, vl0, ok⟩ := cc
      have HF := Lib.hid (field_eq s 10 hc rfl hln hcc)
      rw [hln] at HCU hcl hlen
      rw [hcc] at HCU hcl
      simp only at HCU hcl
      have HIN := Lib.hid (fun W => isName_any nm (by omega) W)
      have HSH := Lib.hid (fun W => all_any vl0 (by omega) shown_test W)
      have HSM := Lib.hid (fun W => small_any nm (by omega) W)
      have HTR := Lib.hid (fun W => trim_any vl0 (by omega) W)
      have M1 := Lib.hid m1
      clear r1 m1 hc ht hlen hcl hcc
      go_wp2_with fail
      refine HE.out.mono ?_
      rintro e w2 ⟨rfl, ms2, r2, m2⟩
      rw [hln]
      have M2 := Lib.hid (M1.out.trans m2)
      have R2 := Lib.hid r2
      clear r2 m2 M1 HE hln
      go_wp2_with fail
      refine (HCU.out _).mono ?_
      rintro e w3 ⟨rfl, hb3⟩
      have R3 := Lib.hid (R2.out.later hb3)
      have M3 := Lib.hid (M2.out.later hb3)
      clear hb3 R2 M2 HCU
      by_cases hn : line = []
      · rw [if_pos hn] at HF
        subst hn
        have HQ := Lib.hid (ends_any R3.out hfl ho hsh)
        go_wp2_with fail
        refine HQ.out.mono ?_
        rintro e w4 ⟨rfl, ms4, r4, m4⟩
        go_wp2_with fail
        first | go_end0 | (refine bodyPost_ret (results_none rfl _ _ _) rfl ?_)
        rw [HF.out]
        exact ⟨rfl, ms4, r4, M3.out.trans m4⟩
      · rw [if_neg hn] at HF
        have hn1 : (line == []) = false := by rw [beq_eq_false_iff_ne]; exact hn
        obtain ⟨vo, vl, vf, vb, hI⟩ := R3.out
        obtain ⟨af, cf, rfl⟩ := row_form hI.flds
        have q11 : w3.cell? ⟨rd, 11, none⟩ = some (Value.slice af s.fields.length cf) := cell_of_heap hI.box
        have I3 := Lib.hid hI
        clear hI
        by_cases h50 : s.fields.length = 50
        · rw [if_pos h50] at HF
          have h50' : ((s.fields.length : Int) == 50) = true := by rw [beq_iff_eq]; omega
          clear h50
          go_wp2_with fail
          refine (fail_any R3.out 67).mono ?_
          rintro e w4 ⟨rfl, ms4, r4, m4⟩
          go_wp2_with fail
          first | go_end0 | (refine bodyPost_ret (results_none rfl _ _ _) rfl ?_)
          rw [HF.out, List.append_nil]
          exact ⟨rfl, ms4, r4, M3.out.trans m4⟩
        · rw [if_neg h50] at HF
          have h50' : ((s.fields.length : Int) == 50) = false := by rw [beq_eq_false_iff_ne]; omega
          clear h50
          go_upto_region 10 with (fail)
          go_cut [62] (fun sx wx => sx = .bool (!ok || !allB nm nameB || (!vl0.isEmpty && !allB vl0 shownB)) ∧ Below w3.heap.size w3 wx)
          case first =>
            generalize allB nm nameB = an at *
            cases ok with
            | false =>
              go_wp2_with fail
              go_meet
              case rel => exact ⟨rfl, Below.refl _ _⟩
            | true =>
              go_wp2_with fail
              refine (HIN.out _).mono ?_
              rintro e w5 ⟨rfl, hb5⟩
              have B5 := Lib.hid hb5
              clear hb5
              cases an with
              | false =>
                go_wp2_with fail
                go_meet
                case rel => exact ⟨rfl, B5.out⟩
              | true =>
                by_cases hv0 : vl0 = []
                · have hv1 : (vl0 == []) = true := by rw [hv0]; rfl
                  have hv2 : vl0.isEmpty = true := by rw [hv0]; rfl
                  have HV0 := Lib.hid hv0
                  clear hv0
                  go_wp2_with fail
                  go_meet
                  case rel => exact ⟨by rw [hv2]; rfl, B5.out⟩
                · have hv1 : (vl0 == []) = false := by rw [beq_eq_false_iff_ne]; exact hv0
                  have hv2 : vl0.isEmpty = false := by cases vl0 with | nil => exact absurd rfl hv0 | cons _ _ => rfl
                  go_wp2_with fail
                  refine (HSH.out _).mono ?_
                  rintro e w6 ⟨rfl, hb6⟩
                  have B6 := Lib.hid (B5.out.trans (hb6.mono B5.out.size))
                  clear hb6
                  generalize allB vl0 shownB = sv at *
                  cases sv
                  all_goals
                    go_wp2_with fail
                    go_meet
                    case rel => exact ⟨by rw [hv2]; rfl, B6.out⟩
          case rest =>
          obtain ⟨rfl, hb4⟩ := hcut
          obtain ⟨w4, rfl⟩ : ∃ wx : World, wx = wc := ⟨_, rfl⟩
          generalize (!ok || !allB nm nameB || (!vl0.isEmpty && !allB vl0 shownB)) = bad at *
          have K4 := Lib.hid (I3.out.later hb4)
          have R4 := Lib.hid (R3.out.later hb4)
          have M4 := Lib.hid (M3.out.later hb4)
          clear hb4 R3 M3 I3 q11 HIN HSH
          cases bad with
          | true =>
            rw [if_pos rfl] at HF
            go_wp2_with fail
            refine (fail_any R4.out 61).mono ?_
            rintro e w6 ⟨rfl, ms6, r6, m6⟩
            go_wp2_with fail
            first | go_end0 | (refine bodyPost_ret (results_none rfl _ _ _) rfl ?_)
            rw [HF.out, List.append_nil]
            exact ⟨rfl, ms6, r6, M4.out.trans m6⟩
          | false =>
              rw [if_neg (by decide)] at HF
              clear R4
              go_upto_region 5 with (fail)
              refine wp_region_held_drew (S := (fun _ => True)) (by kernel_rfl) trivial (fun hS0 => ?_)
              have Kw5 := Lib.hid (K4.out.later (Below.drew (Below.refl _ _)))
              have Mw5 := Lib.hid (M4.out.later (Below.drew (Below.refl _ _)))
              clear K4 M4
              generalize w4.drew = w5 at Kw5 Mw5 ⊢
              refine wpAnyH_take (i := 0) (oi := { dst := some 31, op := _, type := _, pos := _, after := _, guard := _ }) (v := ?_) rfl (by kernel_rfl) (by kernel_rfl) (by kernel_rfl) (fun _ _ _ h => h) (Or.inl ⟨by kernel_rfl, ?_⟩) (by assumption) ?_
              rotate_left
              · (intro w hSw; (try dsimp only at hSw); go_simp); all_goals (with_reducible rfl)
              try simp only [Act.put, List.setIfInBounds_toArray, List.set_cons_zero, List.set_cons_succ]
              refine wpAnyH_take (i := 1) (oi := { dst := some 32, op := _, type := _, pos := _, after := _, guard := _ }) (v := ?_) rfl (by kernel_rfl) (by kernel_rfl) (by kernel_rfl) (fun _ _ _ h => h) (Or.inl ⟨by kernel_rfl, ?_⟩) (by assumption) ?_
              rotate_left
              · (intro w hSw; (try dsimp only at hSw); go_simp); all_goals (with_reducible rfl)
              try simp only [Act.put, List.setIfInBounds_toArray, List.set_cons_zero, List.set_cons_succ]
              refine wpAnyH_take (i := 2) (oi := { dst := some 33, op := _, type := _, pos := _, after := _, guard := _ }) (v := ?_) rfl (by kernel_rfl) (by kernel_rfl) (by kernel_rfl) (fun _ _ _ h => h) (Or.inl ⟨by kernel_rfl, ?_⟩) (by assumption) ?_
              rotate_left
              · (intro w hSw; (try dsimp only at hSw); go_simp); all_goals (with_reducible rfl)
              try simp only [Act.put, List.setIfInBounds_toArray, List.set_cons_zero, List.set_cons_succ]
              refine wpAnyH_take (i := 3) (oi := { dst := some 34, op := _, type := _, pos := _, after := _, guard := _ }) (v := ?_) rfl (by kernel_rfl) (by kernel_rfl) (by kernel_rfl) (fun _ _ _ h => h) (Or.inl ⟨by kernel_rfl, ?_⟩) (by assumption) ?_
              rotate_left
              · (intro w hSw; (try dsimp only at hSw); go_simp); all_goals (with_reducible rfl)
              try simp only [Act.put, List.setIfInBounds_toArray, List.set_cons_zero, List.set_cons_succ]
              refine wpAnyH_take (i := 4) (oi := { dst := some 35, op := _, type := _, pos := _, after := _, guard := _ }) (v := ?_) rfl (by kernel_rfl) (by kernel_rfl) (by kernel_rfl) (fun _ _ _ h => h) (Or.inl ⟨by kernel_rfl, ?_⟩) (by assumption) ?_
              rotate_left
              · (intro w hSw; (try dsimp only at hSw); go_simp); all_goals (with_reducible rfl)
              try simp only [Act.put, List.setIfInBounds_toArray, List.set_cons_zero, List.set_cons_succ]
              refine wpAnyH_take (i := 6) (oi := { dst := some 37, op := _, type := _, pos := _, after := _, guard := _ }) (v := ?_) rfl (by kernel_rfl) (by kernel_rfl) (by kernel_rfl) (fun _ _ _ h => h) (Or.inl ⟨by kernel_rfl, ?_⟩) (by assumption) ?_
              rotate_left
              · (intro w hSw; (try dsimp only at hSw); go_simp); all_goals (with_reducible rfl)
              try simp only [Act.put, List.setIfInBounds_toArray, List.set_cons_zero, List.set_cons_succ]
              refine wpAnyH_take (i := 8) (oi := { dst := some 39, op := _, type := _, pos := _, after := _, guard := _ }) (v := ?_) rfl (by kernel_rfl) (by kernel_rfl) (by kernel_rfl) (fun _ _ _ h => h) (Or.inl ⟨by kernel_rfl, ?_⟩) (by assumption) ?_
              rotate_left
              · (intro w hSw; (try dsimp only at hSw); go_simp); all_goals (with_reducible rfl)
              try simp only [Act.put, List.setIfInBounds_toArray, List.set_cons_zero, List.set_cons_succ]
              refine wpAnyH_ready (rs := [5, 7]) (by kernel_rfl) (by simp) ?_
              refine (AllReadyH.cons (o := { dst := some 36, op := _, type := _, pos := _, after := _, guard := _ }) rfl (fun K hK => ?_) (AllReadyH.cons (o := { dst := some 38, op := _, type := _, pos := _, after := _, guard := _ }) rfl (fun K hK => ?_) AllReadyH.nil))
              · rw [if_pos (by kernel_rfl)]
                have c11 : w5.cell? ⟨rd, 11, none⟩ = some (Value.slice af s.fields.length cf) := cell_of_heap Kw5.out.box
                go_wp2_with fail
                clear c11
                refine hK.out _ _ trivial (fun _ => ?_)
                clear hK K
                try simp only [Act.put, List.setIfInBounds_toArray, List.set_cons_zero, List.set_cons_succ]
                refine wpAnyH_ready (rs := [7]) (by kernel_rfl) (by simp) ?_
                refine (AllReadyH.cons (o := { dst := some 38, op := _, type := _, pos := _, after := _, guard := _ }) rfl (fun K hK => ?_) AllReadyH.nil)
                rw [if_pos (by kernel_rfl)]
                refine wp_call_go Tryz.func49 (by kernel_rfl) (by kernel_rfl) (by rfl) (HSM.out _) (by rfl) ?_
                rintro e z1 ⟨rfl, hb⟩
                refine ⟨_, rfl, ?_⟩
                have Kz1 := Lib.hid (Kw5.out.later hb)
                have Mz1 := Lib.hid (Mw5.out.later hb)
                clear hb Kw5 Mw5
                refine hK.out _ _ trivial (fun _ => ?_)
                clear hK K
                try simp only [Act.put, List.setIfInBounds_toArray, List.set_cons_zero, List.set_cons_succ]
                refine wpAnyH_ready (rs := [9]) (by kernel_rfl) (by simp) ?_
                refine (AllReadyH.cons (o := { dst := some 40, op := _, type := _, pos := _, after := _, guard := _ }) rfl (fun K hK => ?_) AllReadyH.nil)
                rw [if_pos (by kernel_rfl)]
                refine wp_call_go Tryz.func42 (by kernel_rfl) (by kernel_rfl) (by rfl) (HTR.out _) (by rfl) ?_
                rintro e z2 ⟨rfl, hb⟩
                refine ⟨_, rfl, ?_⟩
                have Kz2 := Lib.hid (Kz1.out.later hb)
                have Mz2 := Lib.hid (Mz1.out.later hb)
                clear hb Kz1 Mz1
                refine hK.out _ _ trivial (fun _ => ?_)
                clear hK K
                try simp only [Act.put, List.setIfInBounds_toArray, List.set_cons_zero, List.set_cons_succ]
                refine wpAnyH_take (i := 10) (oi := { dst := some 41, op := _, type := _, pos := _, after := _, guard := _ }) (v := ?_) rfl (by kernel_rfl) (by kernel_rfl) (by kernel_rfl) (fun _ _ _ h => h) (Or.inl ⟨by kernel_rfl, ?_⟩) (by assumption) ?_
                rotate_left
                · (intro w hSw; (try dsimp only at hSw); go_simp); all_goals (with_reducible rfl)
                try simp only [Act.put, List.setIfInBounds_toArray, List.set_cons_zero, List.set_cons_succ]
                refine wpAnyH_ready (rs := [11]) (by kernel_rfl) (by simp) ?_
                refine (AllReadyH.cons (o := { dst := some 42, op := _, type := _, pos := _, after := _, guard := _ }) rfl (fun K hK => ?_) AllReadyH.nil)
                rw [if_pos (by kernel_rfl)]
                go_wp2_with fail
                have Kz3 := Lib.hid (Kz2.out.later (below_alloc (Below.refl _ _) (Nat.le_refl _) (.cells #[.string ⟨(smallL nm).toArray⟩, .string ⟨(trimL vl0).toArray⟩] 58)))
                have Mz3 := Lib.hid (Mz2.out.later (below_alloc (Below.refl _ _) (Nat.le_refl _) (.cells #[.string ⟨(smallL nm).toArray⟩, .string ⟨(trimL vl0).toArray⟩] 58)))
                have Lz3 : Hid ((z2.alloc (.cells #[.string ⟨(smallL nm).toArray⟩, .string ⟨(trimL vl0).toArray⟩] 58)).heap[z2.heap.size]? = some (.cells #[.string ⟨(smallL nm).toArray⟩, .string ⟨(trimL vl0).toArray⟩] 58 (0, 0))) := heap_alloc_new z2 _
                refine hK.out _ (z2.alloc (.cells #[.string ⟨(smallL nm).toArray⟩, .string ⟨(trimL vl0).toArray⟩] 58)) trivial (fun _ => ?_)
                generalize z2.alloc (.cells #[.string ⟨(smallL nm).toArray⟩, .string ⟨(trimL vl0).toArray⟩] 58) = z3 at Kz3 Mz3 Lz3 ⊢
                generalize z2.heap.size = gl at Lz3 ⊢
                clear Kz2 Mz2
                clear hK K
                try simp only [Act.put, List.setIfInBounds_toArray, List.set_cons_zero, List.set_cons_succ]
                refine wpAnyH_ready (rs := [12]) (by kernel_rfl) (by simp) ?_
                refine (AllReadyH.cons (o := { dst := some 43, op := _, type := _, pos := _, after := _, guard := _ }) rfl (fun K hK => ?_) AllReadyH.nil)
                rw [if_pos (by kernel_rfl)]
                refine wp_append_lies _ _ _ _ (by rfl) 0 58 j0 _ 2 32 Tryz.underlying29 ji jz0 jz1 jz2 rfl (by decide) (Value.slice af s.fields.length cf) s.fields.length (pairCells s.fields) (by rfl) Kz3.out.flds ⟨gl, 0, none⟩ 1 1 [.string ⟨(smallL nm).toArray⟩, .string ⟨(trimL vl0).toArray⟩] (by rfl) (by rfl) (fun j u hj => by rw [Addr.add_lit, cell_of_heap Lz3.out]; simpa using hj) (by simp [Value.oneCell']) (by decide) (by simp only [maxLen]; omega) (by omega) (Nat.zero_le _) _ rfl ?_
                intro g cap z4 hown hgr hat hlt2
                have hbx := Kz3.out.past Kz3.out.oF hgr
                have hP := Kz3.out.pushField (s' := { s with head := s.head + 1, line := [], fields := s.fields ++ [(smallL nm, trimL vl0)] }) hown hgr hat hlt2 rfl ⟨by simp, pairCells_snoc _ _ _⟩ rfl rfl
                have HP := Lib.hid hP.1
                have HM := Lib.hid (Mz3.out.trans hP.2)
                have HX := Lib.hid hbx
                clear hP hown hgr hat hbx Kz3 Mz3
                refine hK.out _ z4 trivial (fun _ => ?_)
                clear hK K
                try simp only [Act.put, List.setIfInBounds_toArray, List.set_cons_zero, List.set_cons_succ]
                refine wpAnyH_take (i := 13) (oi := { dst := some 44, op := _, type := _, pos := _, after := _, guard := _ }) (v := ?_) rfl (by kernel_rfl) (by kernel_rfl) (by kernel_rfl) (fun _ _ _ h => h) (Or.inl ⟨by kernel_rfl, ?_⟩) (by assumption) ?_
                rotate_left
                · (intro w hSw; (try dsimp only at hSw); go_simp); all_goals (with_reducible rfl)
                try simp only [Act.put, List.setIfInBounds_toArray, List.set_cons_zero, List.set_cons_succ]
                refine wpAnyH_take (i := 14) (oi := { dst := some 45, op := _, type := _, pos := _, after := _, guard := _ }) (v := ?_) rfl (by kernel_rfl) (by kernel_rfl) (by kernel_rfl) (fun _ _ _ h => h) (Or.inl ⟨by kernel_rfl, ?_⟩) (by assumption) ?_
                rotate_left
                · (intro w hSw; (try dsimp only at hSw); go_simp); all_goals (with_reducible rfl)
                try simp only [Act.put, List.setIfInBounds_toArray, List.set_cons_zero, List.set_cons_succ]
                refine wpAnyH_take (i := 15) (oi := { dst := some 46, op := _, type := _, pos := _, after := _, guard := _ }) (v := ?_) rfl (by kernel_rfl) (by kernel_rfl) (by kernel_rfl) (fun _ _ _ h => h) (Or.inl ⟨by kernel_rfl, ?_⟩) (by assumption) ?_
                rotate_left
                · (intro w hSw; (try dsimp only at hSw); go_simp); all_goals (with_reducible rfl)
                try simp only [Act.put, List.setIfInBounds_toArray, List.set_cons_zero, List.set_cons_succ]
                refine wpAnyH_ready (rs := [16]) (by kernel_rfl) (by simp) ?_
                refine (AllReadyH.cons (o := { dst := none, op := _, type := _, pos := _, after := _, guard := _ }) rfl (fun K hK => ?_) AllReadyH.nil)
                rw [if_pos (by kernel_rfl)]
                have q33 : z4.cell? ⟨rd, 11, none⟩ = some (Value.slice af s.fields.length cf) := cell_of_heap HX.out
                have f33 : z4.frozen? ⟨rd, 11, none⟩ = false := free_of_heap HX.out
                go_wp2_with fail
                refine hK.out _ _ trivial (fun _ => ?_)
                clear hK K
                try simp only [Act.put]
                refine wpAnyH_done (by kernel_rfl) ?_ _
                go_wp2_with fail
                first | go_end0 | (refine bodyPost_ret (results_none rfl _ _ _) rfl ?_)
                rw [HF.out, List.append_nil]
                exact ⟨rfl, _, ⟨_, _, _, _, HP.out⟩, HM.out⟩
              · rw [if_pos (by kernel_rfl)]
                refine wp_call_go Tryz.func49 (by kernel_rfl) (by kernel_rfl) (by rfl) (HSM.out _) (by rfl) ?_
                rintro e z6 ⟨rfl, hb⟩
                refine ⟨_, rfl, ?_⟩
                have Kz6 := Lib.hid (Kw5.out.later hb)
                have Mz6 := Lib.hid (Mw5.out.later hb)
                clear hb Kw5 Mw5
                refine hK.out _ _ trivial (fun _ => ?_)
                clear hK K
                try simp only [Act.put, List.setIfInBounds_toArray, List.set_cons_zero, List.set_cons_succ]
                refine wpAnyH_ready (rs := [5, 9]) (by kernel_rfl) (by simp) ?_
                refine (AllReadyH.cons (o := { dst := some 36, op := _, type := _, pos := _, after := _, guard := _ }) rfl (fun K hK => ?_) (AllReadyH.cons (o := { dst := some 40, op := _, type := _, pos := _, after := _, guard := _ }) rfl (fun K hK => ?_) AllReadyH.nil))
                · rw [if_pos (by kernel_rfl)]
                  have c11 : z6.cell? ⟨rd, 11, none⟩ = some (Value.slice af s.fields.length cf) := cell_of_heap Kz6.out.box
                  go_wp2_with fail
                  clear c11
                  refine hK.out _ _ trivial (fun _ => ?_)
                  clear hK K
                  try simp only [Act.put, List.setIfInBounds_toArray, List.set_cons_zero, List.set_cons_succ]
                  refine wpAnyH_ready (rs := [9]) (by kernel_rfl) (by simp) ?_
                  refine (AllReadyH.cons (o := { dst := some 40, op := _, type := _, pos := _, after := _, guard := _ }) rfl (fun K hK => ?_) AllReadyH.nil)
                  rw [if_pos (by kernel_rfl)]
                  refine wp_call_go Tryz.func42 (by kernel_rfl) (by kernel_rfl) (by rfl) (HTR.out _) (by rfl) ?_
                  rintro e z7 ⟨rfl, hb⟩
                  refine ⟨_, rfl, ?_⟩
                  have Kz7 := Lib.hid (Kz6.out.later hb)
                  have Mz7 := Lib.hid (Mz6.out.later hb)
                  clear hb Kz6 Mz6
                  refine hK.out _ _ trivial (fun _ => ?_)
                  clear hK K
                  try simp only [Act.put, List.setIfInBounds_toArray, List.set_cons_zero, List.set_cons_succ]
                  refine wpAnyH_take (i := 10) (oi := { dst := some 41, op := _, type := _, pos := _, after := _, guard := _ }) (v := ?_) rfl (by kernel_rfl) (by kernel_rfl) (by kernel_rfl) (fun _ _ _ h => h) (Or.inl ⟨by kernel_rfl, ?_⟩) (by assumption) ?_
                  rotate_left
                  · (intro w hSw; (try dsimp only at hSw); go_simp); all_goals (with_reducible rfl)
                  try simp only [Act.put, List.setIfInBounds_toArray, List.set_cons_zero, List.set_cons_succ]
                  refine wpAnyH_ready (rs := [11]) (by kernel_rfl) (by simp) ?_
                  refine (AllReadyH.cons (o := { dst := some 42, op := _, type := _, pos := _, after := _, guard := _ }) rfl (fun K hK => ?_) AllReadyH.nil)
                  rw [if_pos (by kernel_rfl)]
                  go_wp2_with fail
                  have Kz8 := Lib.hid (Kz7.out.later (below_alloc (Below.refl _ _) (Nat.le_refl _) (.cells #[.string ⟨(smallL nm).toArray⟩, .string ⟨(trimL vl0).toArray⟩] 58)))
                  have Mz8 := Lib.hid (Mz7.out.later (below_alloc (Below.refl _ _) (Nat.le_refl _) (.cells #[.string ⟨(smallL nm).toArray⟩, .string ⟨(trimL vl0).toArray⟩] 58)))
                  have Lz8 : Hid ((z7.alloc (.cells #[.string ⟨(smallL nm).toArray⟩, .string ⟨(trimL vl0).toArray⟩] 58)).heap[z7.heap.size]? = some (.cells #[.string ⟨(smallL nm).toArray⟩, .string ⟨(trimL vl0).toArray⟩] 58 (0, 0))) := heap_alloc_new z7 _
                  refine hK.out _ (z7.alloc (.cells #[.string ⟨(smallL nm).toArray⟩, .string ⟨(trimL vl0).toArray⟩] 58)) trivial (fun _ => ?_)
                  generalize z7.alloc (.cells #[.string ⟨(smallL nm).toArray⟩, .string ⟨(trimL vl0).toArray⟩] 58) = z8 at Kz8 Mz8 Lz8 ⊢
                  generalize z7.heap.size = gl at Lz8 ⊢
                  clear Kz7 Mz7
                  clear hK K
                  try simp only [Act.put, List.setIfInBounds_toArray, List.set_cons_zero, List.set_cons_succ]
                  refine wpAnyH_ready (rs := [12]) (by kernel_rfl) (by simp) ?_
                  refine (AllReadyH.cons (o := { dst := some 43, op := _, type := _, pos := _, after := _, guard := _ }) rfl (fun K hK => ?_) AllReadyH.nil)
                  rw [if_pos (by kernel_rfl)]
                  refine wp_append_lies _ _ _ _ (by rfl) 0 58 j0 _ 2 32 Tryz.underlying29 ji jz0 jz1 jz2 rfl (by decide) (Value.slice af s.fields.length cf) s.fields.length (pairCells s.fields) (by rfl) Kz8.out.flds ⟨gl, 0, none⟩ 1 1 [.string ⟨(smallL nm).toArray⟩, .string ⟨(trimL vl0).toArray⟩] (by rfl) (by rfl) (fun j u hj => by rw [Addr.add_lit, cell_of_heap Lz8.out]; simpa using hj) (by simp [Value.oneCell']) (by decide) (by simp only [maxLen]; omega) (by omega) (Nat.zero_le _) _ rfl ?_
                  intro g cap z9 hown hgr hat hlt2
                  have hbx := Kz8.out.past Kz8.out.oF hgr
                  have hP := Kz8.out.pushField (s' := { s with head := s.head + 1, line := [], fields := s.fields ++ [(smallL nm, trimL vl0)] }) hown hgr hat hlt2 rfl ⟨by simp, pairCells_snoc _ _ _⟩ rfl rfl
                  have HP := Lib.hid hP.1
                  have HM := Lib.hid (Mz8.out.trans hP.2)
                  have HX := Lib.hid hbx
                  clear hP hown hgr hat hbx Kz8 Mz8
                  refine hK.out _ z9 trivial (fun _ => ?_)
                  clear hK K
                  try simp only [Act.put, List.setIfInBounds_toArray, List.set_cons_zero, List.set_cons_succ]
                  refine wpAnyH_take (i := 13) (oi := { dst := some 44, op := _, type := _, pos := _, after := _, guard := _ }) (v := ?_) rfl (by kernel_rfl) (by kernel_rfl) (by kernel_rfl) (fun _ _ _ h => h) (Or.inl ⟨by kernel_rfl, ?_⟩) (by assumption) ?_
                  rotate_left
                  · (intro w hSw; (try dsimp only at hSw); go_simp); all_goals (with_reducible rfl)
                  try simp only [Act.put, List.setIfInBounds_toArray, List.set_cons_zero, List.set_cons_succ]
                  refine wpAnyH_take (i := 14) (oi := { dst := some 45, op := _, type := _, pos := _, after := _, guard := _ }) (v := ?_) rfl (by kernel_rfl) (by kernel_rfl) (by kernel_rfl) (fun _ _ _ h => h) (Or.inl ⟨by kernel_rfl, ?_⟩) (by assumption) ?_
                  rotate_left
                  · (intro w hSw; (try dsimp only at hSw); go_simp); all_goals (with_reducible rfl)
                  try simp only [Act.put, List.setIfInBounds_toArray, List.set_cons_zero, List.set_cons_succ]
                  refine wpAnyH_take (i := 15) (oi := { dst := some 46, op := _, type := _, pos := _, after := _, guard := _ }) (v := ?_) rfl (by kernel_rfl) (by kernel_rfl) (by kernel_rfl) (fun _ _ _ h => h) (Or.inl ⟨by kernel_rfl, ?_⟩) (by assumption) ?_
                  rotate_left
                  · (intro w hSw; (try dsimp only at hSw); go_simp); all_goals (with_reducible rfl)
                  try simp only [Act.put, List.setIfInBounds_toArray, List.set_cons_zero, List.set_cons_succ]
                  refine wpAnyH_ready (rs := [16]) (by kernel_rfl) (by simp) ?_
                  refine (AllReadyH.cons (o := { dst := none, op := _, type := _, pos := _, after := _, guard := _ }) rfl (fun K hK => ?_) AllReadyH.nil)
                  rw [if_pos (by kernel_rfl)]
                  have q33 : z9.cell? ⟨rd, 11, none⟩ = some (Value.slice af s.fields.length cf) := cell_of_heap HX.out
                  have f33 : z9.frozen? ⟨rd, 11, none⟩ = false := free_of_heap HX.out
                  go_wp2_with fail
                  refine hK.out _ _ trivial (fun _ => ?_)
                  clear hK K
                  try simp only [Act.put]
                  refine wpAnyH_done (by kernel_rfl) ?_ _
                  go_wp2_with fail
                  first | go_end0 | (refine bodyPost_ret (results_none rfl _ _ _) rfl ?_)
                  rw [HF.out, List.append_nil]
                  exact ⟨rfl, _, ⟨_, _, _, _, HP.out⟩, HM.out⟩
                · rw [if_pos (by kernel_rfl)]
                  refine wp_call_go Tryz.func42 (by kernel_rfl) (by kernel_rfl) (by rfl) (HTR.out _) (by rfl) ?_
                  rintro e z11 ⟨rfl, hb⟩
                  refine ⟨_, rfl, ?_⟩
                  have Kz11 := Lib.hid (Kz6.out.later hb)
                  have Mz11 := Lib.hid (Mz6.out.later hb)
                  clear hb Kz6 Mz6
                  refine hK.out _ _ trivial (fun _ => ?_)
                  clear hK K
                  try simp only [Act.put, List.setIfInBounds_toArray, List.set_cons_zero, List.set_cons_succ]
                  refine wpAnyH_take (i := 10) (oi := { dst := some 41, op := _, type := _, pos := _, after := _, guard := _ }) (v := ?_) rfl (by kernel_rfl) (by kernel_rfl) (by kernel_rfl) (fun _ _ _ h => h) (Or.inl ⟨by kernel_rfl, ?_⟩) (by assumption) ?_
                  rotate_left
                  · (intro w hSw; (try dsimp only at hSw); go_simp); all_goals (with_reducible rfl)
                  try simp only [Act.put, List.setIfInBounds_toArray, List.set_cons_zero, List.set_cons_succ]
                  refine wpAnyH_ready (rs := [5, 11]) (by kernel_rfl) (by simp) ?_
                  refine (AllReadyH.cons (o := { dst := some 36, op := _, type := _, pos := _, after := _, guard := _ }) rfl (fun K hK => ?_) (AllReadyH.cons (o := { dst := some 42, op := _, type := _, pos := _, after := _, guard := _ }) rfl (fun K hK => ?_) AllReadyH.nil))
                  · rw [if_pos (by kernel_rfl)]
                    have c11 : z11.cell? ⟨rd, 11, none⟩ = some (Value.slice af s.fields.length cf) := cell_of_heap Kz11.out.box
                    go_wp2_with fail
                    clear c11
                    refine hK.out _ _ trivial (fun _ => ?_)
                    clear hK K
                    try simp only [Act.put, List.setIfInBounds_toArray, List.set_cons_zero, List.set_cons_succ]
                    refine wpAnyH_ready (rs := [11]) (by kernel_rfl) (by simp) ?_
                    refine (AllReadyH.cons (o := { dst := some 42, op := _, type := _, pos := _, after := _, guard := _ }) rfl (fun K hK => ?_) AllReadyH.nil)
                    rw [if_pos (by kernel_rfl)]
                    go_wp2_with fail
                    have Kz12 := Lib.hid (Kz11.out.later (below_alloc (Below.refl _ _) (Nat.le_refl _) (.cells #[.string ⟨(smallL nm).toArray⟩, .string ⟨(trimL vl0).toArray⟩] 58)))
                    have Mz12 := Lib.hid (Mz11.out.later (below_alloc (Below.refl _ _) (Nat.le_refl _) (.cells #[.string ⟨(smallL nm).toArray⟩, .string ⟨(trimL vl0).toArray⟩] 58)))
                    have Lz12 : Hid ((z11.alloc (.cells #[.string ⟨(smallL nm).toArray⟩, .string ⟨(trimL vl0).toArray⟩] 58)).heap[z11.heap.size]? = some (.cells #[.string ⟨(smallL nm).toArray⟩, .string ⟨(trimL vl0).toArray⟩] 58 (0, 0))) := heap_alloc_new z11 _
                    refine hK.out _ (z11.alloc (.cells #[.string ⟨(smallL nm).toArray⟩, .string ⟨(trimL vl0).toArray⟩] 58)) trivial (fun _ => ?_)
                    generalize z11.alloc (.cells #[.string ⟨(smallL nm).toArray⟩, .string ⟨(trimL vl0).toArray⟩] 58) = z12 at Kz12 Mz12 Lz12 ⊢
                    generalize z11.heap.size = gl at Lz12 ⊢
                    clear Kz11 Mz11
                    clear hK K
                    try simp only [Act.put, List.setIfInBounds_toArray, List.set_cons_zero, List.set_cons_succ]
                    refine wpAnyH_ready (rs := [12]) (by kernel_rfl) (by simp) ?_
                    refine (AllReadyH.cons (o := { dst := some 43, op := _, type := _, pos := _, after := _, guard := _ }) rfl (fun K hK => ?_) AllReadyH.nil)
                    rw [if_pos (by kernel_rfl)]
                    refine wp_append_lies _ _ _ _ (by rfl) 0 58 j0 _ 2 32 Tryz.underlying29 ji jz0 jz1 jz2 rfl (by decide) (Value.slice af s.fields.length cf) s.fields.length (pairCells s.fields) (by rfl) Kz12.out.flds ⟨gl, 0, none⟩ 1 1 [.string ⟨(smallL nm).toArray⟩, .string ⟨(trimL vl0).toArray⟩] (by rfl) (by rfl) (fun j u hj => by rw [Addr.add_lit, cell_of_heap Lz12.out]; simpa using hj) (by simp [Value.oneCell']) (by decide) (by simp only [maxLen]; omega) (by omega) (Nat.zero_le _) _ rfl ?_
                    intro g cap z13 hown hgr hat hlt2
                    have hbx := Kz12.out.past Kz12.out.oF hgr
                    have hP := Kz12.out.pushField (s' := { s with head := s.head + 1, line := [], fields := s.fields ++ [(smallL nm, trimL vl0)] }) hown hgr hat hlt2 rfl ⟨by simp, pairCells_snoc _ _ _⟩ rfl rfl
                    have HP := Lib.hid hP.1
                    have HM := Lib.hid (Mz12.out.trans hP.2)
                    have HX := Lib.hid hbx
                    clear hP hown hgr hat hbx Kz12 Mz12
                    refine hK.out _ z13 trivial (fun _ => ?_)
                    clear hK K
                    try simp only [Act.put, List.setIfInBounds_toArray, List.set_cons_zero, List.set_cons_succ]
                    refine wpAnyH_take (i := 13) (oi := { dst := some 44, op := _, type := _, pos := _, after := _, guard := _ }) (v := ?_) rfl (by kernel_rfl) (by kernel_rfl) (by kernel_rfl) (fun _ _ _ h => h) (Or.inl ⟨by kernel_rfl, ?_⟩) (by assumption) ?_
                    rotate_left
                    · (intro w hSw; (try dsimp only at hSw); go_simp); all_goals (with_reducible rfl)
                    try simp only [Act.put, List.setIfInBounds_toArray, List.set_cons_zero, List.set_cons_succ]
                    refine wpAnyH_take (i := 14) (oi := { dst := some 45, op := _, type := _, pos := _, after := _, guard := _ }) (v := ?_) rfl (by kernel_rfl) (by kernel_rfl) (by kernel_rfl) (fun _ _ _ h => h) (Or.inl ⟨by kernel_rfl, ?_⟩) (by assumption) ?_
                    rotate_left
                    · (intro w hSw; (try dsimp only at hSw); go_simp); all_goals (with_reducible rfl)
                    try simp only [Act.put, List.setIfInBounds_toArray, List.set_cons_zero, List.set_cons_succ]
                    refine wpAnyH_take (i := 15) (oi := { dst := some 46, op := _, type := _, pos := _, after := _, guard := _ }) (v := ?_) rfl (by kernel_rfl) (by kernel_rfl) (by kernel_rfl) (fun _ _ _ h => h) (Or.inl ⟨by kernel_rfl, ?_⟩) (by assumption) ?_
                    rotate_left
                    · (intro w hSw; (try dsimp only at hSw); go_simp); all_goals (with_reducible rfl)
                    try simp only [Act.put, List.setIfInBounds_toArray, List.set_cons_zero, List.set_cons_succ]
                    refine wpAnyH_ready (rs := [16]) (by kernel_rfl) (by simp) ?_
                    refine (AllReadyH.cons (o := { dst := none, op := _, type := _, pos := _, after := _, guard := _ }) rfl (fun K hK => ?_) AllReadyH.nil)
                    rw [if_pos (by kernel_rfl)]
                    have q33 : z13.cell? ⟨rd, 11, none⟩ = some (Value.slice af s.fields.length cf) := cell_of_heap HX.out
                    have f33 : z13.frozen? ⟨rd, 11, none⟩ = false := free_of_heap HX.out
                    go_wp2_with fail
                    refine hK.out _ _ trivial (fun _ => ?_)
                    clear hK K
                    try simp only [Act.put]
                    refine wpAnyH_done (by kernel_rfl) ?_ _
                    go_wp2_with fail
                    first | go_end0 | (refine bodyPost_ret (results_none rfl _ _ _) rfl ?_)
                    rw [HF.out, List.append_nil]
                    exact ⟨rfl, _, ⟨_, _, _, _, HP.out⟩, HM.out⟩
                  · rw [if_pos (by kernel_rfl)]
                    go_wp2_with fail
                    have Kz15 := Lib.hid (Kz11.out.later (below_alloc (Below.refl _ _) (Nat.le_refl _) (.cells #[.string ⟨(smallL nm).toArray⟩, .string ⟨(trimL vl0).toArray⟩] 58)))
                    have Mz15 := Lib.hid (Mz11.out.later (below_alloc (Below.refl _ _) (Nat.le_refl _) (.cells #[.string ⟨(smallL nm).toArray⟩, .string ⟨(trimL vl0).toArray⟩] 58)))
                    have Lz15 : Hid ((z11.alloc (.cells #[.string ⟨(smallL nm).toArray⟩, .string ⟨(trimL vl0).toArray⟩] 58)).heap[z11.heap.size]? = some (.cells #[.string ⟨(smallL nm).toArray⟩, .string ⟨(trimL vl0).toArray⟩] 58 (0, 0))) := heap_alloc_new z11 _
                    refine hK.out _ (z11.alloc (.cells #[.string ⟨(smallL nm).toArray⟩, .string ⟨(trimL vl0).toArray⟩] 58)) trivial (fun _ => ?_)
                    generalize z11.alloc (.cells #[.string ⟨(smallL nm).toArray⟩, .string ⟨(trimL vl0).toArray⟩] 58) = z15 at Kz15 Mz15 Lz15 ⊢
                    generalize z11.heap.size = gl at Lz15 ⊢
                    clear Kz11 Mz11
                    clear hK K
                    try simp only [Act.put, List.setIfInBounds_toArray, List.set_cons_zero, List.set_cons_succ]
                    refine wpAnyH_ready (rs := [5]) (by kernel_rfl) (by simp) ?_
                    refine (AllReadyH.cons (o := { dst := some 36, op := _, type := _, pos := _, after := _, guard := _ }) rfl (fun K hK => ?_) AllReadyH.nil)
                    rw [if_pos (by kernel_rfl)]
                    have c11 : z15.cell? ⟨rd, 11, none⟩ = some (Value.slice af s.fields.length cf) := cell_of_heap Kz15.out.box
                    go_wp2_with fail
                    clear c11
                    refine hK.out _ _ trivial (fun _ => ?_)
                    clear hK K
                    try simp only [Act.put, List.setIfInBounds_toArray, List.set_cons_zero, List.set_cons_succ]
                    refine wpAnyH_ready (rs := [12]) (by kernel_rfl) (by simp) ?_
                    refine (AllReadyH.cons (o := { dst := some 43, op := _, type := _, pos := _, after := _, guard := _ }) rfl (fun K hK => ?_) AllReadyH.nil)
                    rw [if_pos (by kernel_rfl)]
                    refine wp_append_lies _ _ _ _ (by rfl) 0 58 j0 _ 2 32 Tryz.underlying29 ji jz0 jz1 jz2 rfl (by decide) (Value.slice af s.fields.length cf) s.fields.length (pairCells s.fields) (by rfl) Kz15.out.flds ⟨gl, 0, none⟩ 1 1 [.string ⟨(smallL nm).toArray⟩, .string ⟨(trimL vl0).toArray⟩] (by rfl) (by rfl) (fun j u hj => by rw [Addr.add_lit, cell_of_heap Lz15.out]; simpa using hj) (by simp [Value.oneCell']) (by decide) (by simp only [maxLen]; omega) (by omega) (Nat.zero_le _) _ rfl ?_
                    intro g cap z16 hown hgr hat hlt2
                    have hbx := Kz15.out.past Kz15.out.oF hgr
                    have hP := Kz15.out.pushField (s' := { s with head := s.head + 1, line := [], fields := s.fields ++ [(smallL nm, trimL vl0)] }) hown hgr hat hlt2 rfl ⟨by simp, pairCells_snoc _ _ _⟩ rfl rfl
                    have HP := Lib.hid hP.1
                    have HM := Lib.hid (Mz15.out.trans hP.2)
                    have HX := Lib.hid hbx
                    clear hP hown hgr hat hbx Kz15 Mz15
                    refine hK.out _ z16 trivial (fun _ => ?_)
                    clear hK K
                    try simp only [Act.put, List.setIfInBounds_toArray, List.set_cons_zero, List.set_cons_succ]
                    refine wpAnyH_take (i := 13) (oi := { dst := some 44, op := _, type := _, pos := _, after := _, guard := _ }) (v := ?_) rfl (by kernel_rfl) (by kernel_rfl) (by kernel_rfl) (fun _ _ _ h => h) (Or.inl ⟨by kernel_rfl, ?_⟩) (by assumption) ?_
                    rotate_left
                    · (intro w hSw; (try dsimp only at hSw); go_simp); all_goals (with_reducible rfl)
                    try simp only [Act.put, List.setIfInBounds_toArray, List.set_cons_zero, List.set_cons_succ]
                    refine wpAnyH_take (i := 14) (oi := { dst := some 45, op := _, type := _, pos := _, after := _, guard := _ }) (v := ?_) rfl (by kernel_rfl) (by kernel_rfl) (by kernel_rfl) (fun _ _ _ h => h) (Or.inl ⟨by kernel_rfl, ?_⟩) (by assumption) ?_
                    rotate_left
                    · (intro w hSw; (try dsimp only at hSw); go_simp); all_goals (with_reducible rfl)
                    try simp only [Act.put, List.setIfInBounds_toArray, List.set_cons_zero, List.set_cons_succ]
                    refine wpAnyH_take (i := 15) (oi := { dst := some 46, op := _, type := _, pos := _, after := _, guard := _ }) (v := ?_) rfl (by kernel_rfl) (by kernel_rfl) (by kernel_rfl) (fun _ _ _ h => h) (Or.inl ⟨by kernel_rfl, ?_⟩) (by assumption) ?_
                    rotate_left
                    · (intro w hSw; (try dsimp only at hSw); go_simp); all_goals (with_reducible rfl)
                    try simp only [Act.put, List.setIfInBounds_toArray, List.set_cons_zero, List.set_cons_succ]
                    refine wpAnyH_ready (rs := [16]) (by kernel_rfl) (by simp) ?_
                    refine (AllReadyH.cons (o := { dst := none, op := _, type := _, pos := _, after := _, guard := _ }) rfl (fun K hK => ?_) AllReadyH.nil)
                    rw [if_pos (by kernel_rfl)]
                    have q33 : z16.cell? ⟨rd, 11, none⟩ = some (Value.slice af s.fields.length cf) := cell_of_heap HX.out
                    have f33 : z16.frozen? ⟨rd, 11, none⟩ = false := free_of_heap HX.out
                    go_wp2_with fail
                    refine hK.out _ _ trivial (fun _ => ?_)
                    clear hK K
                    try simp only [Act.put]
                    refine wpAnyH_done (by kernel_rfl) ?_ _
                    go_wp2_with fail
                    first | go_end0 | (refine bodyPost_ret (results_none rfl _ _ _) rfl ?_)
                    rw [HF.out, List.append_nil]
                    exact ⟨rfl, _, ⟨_, _, _, _, HP.out⟩, HM.out⟩
    · have hb1 : ((b.toNat : Int) == 10) = false := toNat_ne (n := 10) (by decide) hb
      have HR : Hid (s.field b = (({ s with head := s.head + 1 } : RS).put b, [])) := by show _ = _; unfold RS.field; simp only; rw [if_neg hc, if_pos hb, ht]
      obtain ⟨vo, vl, vf, vb, hI⟩ := r1
      obtain ⟨a, c, rfl⟩ := row_form hI.line
      have K1 := Lib.hid hI
      have M1 := Lib.hid m1
      have hlt := hI.lt
      have q4 : w1.cell? ⟨rd, 4, none⟩ = some (.slice a s.line.length c) := cell_of_heap hI.box
      clear hI hb m1 hc ht
      go_wp2_with (refine wpList_append_lies _ rfl _ _ 41 rfl 0 5 i0 _ 1 1 Tryz.underlying41 hi hz0 hz1 hz2 rfl (by decide) (.slice a s.line.length c) s.line.length (Lib.byteCells s.line) rfl (K1.out.line.alloc _) ⟨w1.heap.size, 0, none⟩ 1 1 [.int .u8 b.toNat] rfl rfl (fun j u hj => cells_new _ _ _ _ _ (by simpa using hj)) (by simp [Value.oneCell']) (by decide) (by simp only [maxLen]; omega) (by omega) (Nat.zero_le _) _ rfl ?_)
      intro g cap w2 hown hgr hat hlt2
      have hIa := K1.out.later (below_alloc (Below.refl _ _) (Nat.le_refl _) (.cells #[.int .u8 b.toNat] 5))
      have hbx := hIa.past hIa.oL hgr
      have q4 : w2.cell? ⟨rd, 4, none⟩ = some (.slice a s.line.length c) := cell_of_heap hbx
      have f4 : w2.frozen? ⟨rd, 4, none⟩ = false := free_of_heap hbx
      have hP := hIa.pushLine (s' := ({ s with head := s.head + 1 } : RS).put b) hown hgr (by rw [World.size_alloc]; exact hat) hlt2 rfl ⟨by simp [RS.put], byteCells_snoc _ _⟩ rfl rfl
      have HP := Lib.hid hP.1
      have HM := Lib.hid (M1.out.trans ((Mv.of_below (below_alloc (Below.refl _ _) (Nat.le_refl _) _)).trans hP.2))
      have HX := Lib.hid hbx
      clear hIa hbx hP hown hgr hat
      go_wp2_with fail
      first | go_end0 | (refine bodyPost_ret (results_none rfl _ _ _) rfl ?_)
      rw [HR.out, List.append_nil]
      exact ⟨rfl, _, ⟨_, _, _, _, HP.out⟩, HM.out⟩

end Go.Proofs.YtdilmefeofdkmaaGreatDoor
