/-
  storehouseref19.ReadUpload: the walk. (Printed by wip/gen/mfreadup.py.)
-/
import Derived.Test.YtajmkkjlhmeolaaGreatDoorMfReadPart
import Derived.Test.YtajmkkjlhmeolaaGreatDoorMfUp
namespace Go.Proofs.YtajmkkjlhmeolaaGreatDoor
open Go.RowKit Go.Lib Go.PlainAid

/-- what the reference's ReadUpload leaves -/
def RUpOut (o : Option UpV) (w : World) (e : Ending) (w' : World) : Prop :=
  e = .returned (.tuple #[.agg (match o with | some p => p.cells | none => upZero), .bool o.isSome]) ∧ Below w.heap.size w w'

set_option maxHeartbeats 4000000 in
set_option maxRecDepth 100000 in
theorem rReadUp_any (s : List UInt8) (hl : s.length ≤ 4000000000000) (w : World) : Calls Tryz.prog 32 #[.string ⟨s.toArray⟩] w (RUpOut (readUpL s) w) := by
  have HF := Lib.hid (fun W => rFields_any s hl W)
  have HT := Lib.hid (fun (p : UpV) (h : p.bucket.length ≤ 140737488351232) W => rUpText_any p none 0 0 h W)
  obtain ⟨res, hres⟩ : ∃ r, Hid (readUpL s = r) := ⟨_, rfl⟩
  rw [hres.out]
  obtain ⟨o, ho⟩ : ∃ o, fieldsL s = o := ⟨_, rfl⟩
  rw [ho] at HF
  have HZ : Hid ((w.alloc (.cells upZero 52)).heap[w.heap.size]? = some (.cells upZero 52 (0, 0))) := heap_alloc_new _ _
  have BZ : Hid (Below w.heap.size w (w.alloc (.cells upZero 52))) := below_alloc (Below.refl _ _) (Nat.le_refl _) _
  cases o with
  | none =>
    have HN : Hid (res = none) := hres.out.symm.trans (rUp_none ho)
    clear hres ho
    go_enter Tryz.func32, Tryz.ntmps32
    go_wp2_with fail
    refine (HF.out _).mono ?_
    rintro e w1 ⟨v, rfl, hsl, hb1⟩
    have B1 := Lib.hid (BZ.out.trans (hb1.mono BZ.out.size))
    have Z1 := Lib.hid ((hb1.block _ (Array.getElem?_eq_some_iff.1 HZ.out).1).trans HZ.out)
    clear hb1
    go_wp2_with (refine wpList_store_row (by rfl) 52 _ _ (by rfl) w.heap.size upZero (by rfl) (by rfl) 52 _ (by exact Z1.out) (by kernel_rfl) (by kernel_rfl) (by kernel_rfl) ?_)
    refine bodyPost_ret (results_cell_tmp rfl _ _ w.heap.size 52 _ _ rfl (setRow_heap _ _ _ _ _ _ Z1.out) Tryz.underlying52 rfl (by kernel_rfl)) rfl ?_
    rw [HN.out]
    exact ⟨rfl, below_one_row _ _ _ _ _ B1.out (Nat.le_refl _)⟩
  | some l =>
    by_cases h6 : l.length = 7
    · obtain ⟨t0, t1, t2, t3, t4, t5, t6, rfl⟩ : ∃ t0 t1 t2 t3 t4 t5 t6, l = [t0, t1, t2, t3, t4, t5, t6] := by
        match l, h6 with
        | [t0, t1, t2, t3, t4, t5, t6], _ => exact ⟨t0, t1, t2, t3, t4, t5, t6, rfl⟩
      have hm := fieldsL_mem ho
      have V1 := Lib.hid (fun W => rValue_any t1 (by have := hm t1 (by simp); omega) W)
      have V6 := Lib.hid (fun W => rValue_any t6 (by have := hm t6 (by simp); omega) W)
      have h2 : t2.length ≤ 140737488351232 := by have := hm t2 (by simp); omega
      have hY : ∀ R : UpV, rUpC [t0, t1, t2, t3, t4, t5, t6] = R → upRB R = true → upL R = s → res = some R := fun R e h1 h2 => by
        subst e
        exact hres.out.symm.trans (rUp_yes ho rfl ((upRB_iff _).1 h1) h2)
      have hX : ∀ R : UpV, rUpC [t0, t1, t2, t3, t4, t5, t6] = R → ¬ (upRB R = true ∧ upL R = s) → res = none := fun R e h => by
        subst e
        exact hres.out.symm.trans (rUp_no ho (fun h' => h ⟨(upRB_iff _).2 h'.2.1, h'.2.2⟩))
      have hc : rUpC [t0, t1, t2, t3, t4, t5, t6] = ⟨valueL t1, t2, t3, t4, t5, valueL t6⟩ := rfl
      have HY := Lib.hid (hY _ hc)
      have HX := Lib.hid (hX _ hc)
      clear hY hX hc hm ho hres
      generalize valueL t1 = n1 at V1 HY HX
      generalize valueL t6 = n6 at V6 HY HX
      have HTP := Lib.hid (HT.out ⟨n1, t2, t3, t4, t5, n6⟩ h2)
      obtain ⟨X, hX⟩ : ∃ X, upL ⟨n1, t2, t3, t4, t5, n6⟩ = X := ⟨_, rfl⟩
      obtain ⟨rb, hrb⟩ : ∃ x, upRB ⟨n1, t2, t3, t4, t5, n6⟩ = x := ⟨_, rfl⟩
      rw [hX, hrb] at HTP HY HX
      clear hX hrb HT
      go_enter Tryz.func32, Tryz.ntmps32
      go_wp2_with fail
      refine (HF.out _).mono ?_
      rintro e w1 ⟨v, rfl, hsl, hb1⟩
      have B1 := Lib.hid (BZ.out.trans (hb1.mono BZ.out.size))
      have Z1 := Lib.hid ((hb1.block _ (Array.getElem?_eq_some_iff.1 HZ.out).1).trans HZ.out)
      clear hb1
      obtain ⟨a, c, rfl, hat⟩ := strs_at hsl
      obtain ⟨g, off, rfl, _⟩ := hat 0 t0 rfl
      have hS1 : (fun W : World => W.cell? ⟨g, off + 1, none⟩ = some (.string ⟨t1.toArray⟩) ∧ W.cell? ⟨g, off + 2, none⟩ = some (.string ⟨t2.toArray⟩) ∧ W.cell? ⟨g, off + 3, none⟩ = some (.string ⟨t3.toArray⟩) ∧ W.cell? ⟨g, off + 4, none⟩ = some (.string ⟨t4.toArray⟩) ∧ W.cell? ⟨g, off + 5, none⟩ = some (.string ⟨t5.toArray⟩) ∧ W.cell? ⟨g, off + 6, none⟩ = some (.string ⟨t6.toArray⟩)) w1 := by
        refine ⟨?_, ?_, ?_, ?_, ?_, ?_⟩
        · obtain ⟨_, _, he, h⟩ := hat 1 t1 rfl; simp only [Option.some.injEq, Addr.mk.injEq] at he; obtain ⟨rfl, rfl, _⟩ := he; exact h
        · obtain ⟨_, _, he, h⟩ := hat 2 t2 rfl; simp only [Option.some.injEq, Addr.mk.injEq] at he; obtain ⟨rfl, rfl, _⟩ := he; exact h
        · obtain ⟨_, _, he, h⟩ := hat 3 t3 rfl; simp only [Option.some.injEq, Addr.mk.injEq] at he; obtain ⟨rfl, rfl, _⟩ := he; exact h
        · obtain ⟨_, _, he, h⟩ := hat 4 t4 rfl; simp only [Option.some.injEq, Addr.mk.injEq] at he; obtain ⟨rfl, rfl, _⟩ := he; exact h
        · obtain ⟨_, _, he, h⟩ := hat 5 t5 rfl; simp only [Option.some.injEq, Addr.mk.injEq] at he; obtain ⟨rfl, rfl, _⟩ := he; exact h
        · obtain ⟨_, _, he, h⟩ := hat 6 t6 rfl; simp only [Option.some.injEq, Addr.mk.injEq] at he; obtain ⟨rfl, rfl, _⟩ := he; exact h
      clear hat hsl HF HZ BZ
      go_upto_region 4 with (fail)
      go_cut [6] (fun s6 wx => ∃ gB : Nat, s6 = .pointer (some ⟨gB, 0, none⟩) ∧ wx.heap[gB]? = some (.cells #[.int .i64 n1, .string ⟨t2.toArray⟩, .string ⟨t3.toArray⟩, .string ⟨t4.toArray⟩, .string ⟨t5.toArray⟩, .int .i64 n6, .slice none 0 0] 52 (0, 0)) ∧ wx.heap[w.heap.size]? = some (.cells upZero 52 (0, 0)) ∧ Below w.heap.size w wx)
      case first =>
        refine wp_region_held_drew (S := (fun W : World => W.cell? ⟨g, off + 1, none⟩ = some (.string ⟨t1.toArray⟩) ∧ W.cell? ⟨g, off + 2, none⟩ = some (.string ⟨t2.toArray⟩) ∧ W.cell? ⟨g, off + 3, none⟩ = some (.string ⟨t3.toArray⟩) ∧ W.cell? ⟨g, off + 4, none⟩ = some (.string ⟨t4.toArray⟩) ∧ W.cell? ⟨g, off + 5, none⟩ = some (.string ⟨t5.toArray⟩) ∧ W.cell? ⟨g, off + 6, none⟩ = some (.string ⟨t6.toArray⟩))) (by kernel_rfl) hS1 (fun hS0 => ?_)
        have Bd := Lib.hid (Below.drew B1.out)
        have Zd : Hid (w1.drew.heap[w.heap.size]? = some (.cells upZero 52 (0, 0))) := Z1.out
        clear B1 Z1 hS1
        generalize w1.drew = w1 at Bd Zd hS0 ⊢
        have Bw1 := Bd
        have Zw1 := Zd
        clear Bd Zd
        refine wpAnyH_take (i := 0) (oi := ⟨some 21, _, _, _, _, _⟩) (v := ?_) rfl (by kernel_rfl) (by kernel_rfl) (by kernel_rfl) (fun _ _ _ h => h) (Or.inl ⟨by kernel_rfl, ?_⟩) (by assumption) ?_
        rotate_left
        · (intro w hSw; (try dsimp only at hSw); go_simp); all_goals (with_reducible rfl)
        try simp only [Act.put, List.setIfInBounds_toArray, List.set_cons_zero, List.set_cons_succ]
        refine wpAnyH_take (i := 1) (oi := ⟨some 22, _, _, _, _, _⟩) (v := ?_) rfl (by kernel_rfl) (by kernel_rfl) (by kernel_rfl) (fun _ _ _ h => h) (Or.inl ⟨by kernel_rfl, ?_⟩) (by assumption) ?_
        rotate_left
        · (intro w hSw; (try dsimp only at hSw); go_simp); all_goals (with_reducible rfl)
        try simp only [Act.put, List.setIfInBounds_toArray, List.set_cons_zero, List.set_cons_succ]
        refine wpAnyH_take (i := 2) (oi := ⟨some 23, _, _, _, _, _⟩) (v := ?_) rfl (by kernel_rfl) (by kernel_rfl) (by kernel_rfl) (fun _ _ _ h => h) (Or.inl ⟨by kernel_rfl, ?_⟩) (by assumption) ?_
        rotate_left
        · (intro w hSw; (try dsimp only at hSw); (obtain ⟨c1, c2, c3, c4, c5, c6⟩ := hSw); go_simp); all_goals (with_reducible rfl)
        try simp only [Act.put, List.setIfInBounds_toArray, List.set_cons_zero, List.set_cons_succ]
        refine wpAnyH_take (i := 4) (oi := ⟨some 25, _, _, _, _, _⟩) (v := ?_) rfl (by kernel_rfl) (by kernel_rfl) (by kernel_rfl) (fun _ _ _ h => h) (Or.inl ⟨by kernel_rfl, ?_⟩) (by assumption) ?_
        rotate_left
        · (intro w hSw; (try dsimp only at hSw); go_simp); all_goals (with_reducible rfl)
        try simp only [Act.put, List.setIfInBounds_toArray, List.set_cons_zero, List.set_cons_succ]
        refine wpAnyH_take (i := 5) (oi := ⟨some 26, _, _, _, _, _⟩) (v := ?_) rfl (by kernel_rfl) (by kernel_rfl) (by kernel_rfl) (fun _ _ _ h => h) (Or.inl ⟨by kernel_rfl, ?_⟩) (by assumption) ?_
        rotate_left
        · (intro w hSw; (try dsimp only at hSw); go_simp); all_goals (with_reducible rfl)
        try simp only [Act.put, List.setIfInBounds_toArray, List.set_cons_zero, List.set_cons_succ]
        refine wpAnyH_take (i := 6) (oi := ⟨some 27, _, _, _, _, _⟩) (v := ?_) rfl (by kernel_rfl) (by kernel_rfl) (by kernel_rfl) (fun _ _ _ h => h) (Or.inl ⟨by kernel_rfl, ?_⟩) (by assumption) ?_
        rotate_left
        · (intro w hSw; (try dsimp only at hSw); (obtain ⟨c1, c2, c3, c4, c5, c6⟩ := hSw); go_simp); all_goals (with_reducible rfl)
        try simp only [Act.put, List.setIfInBounds_toArray, List.set_cons_zero, List.set_cons_succ]
        refine wpAnyH_take (i := 7) (oi := ⟨some 28, _, _, _, _, _⟩) (v := ?_) rfl (by kernel_rfl) (by kernel_rfl) (by kernel_rfl) (fun _ _ _ h => h) (Or.inl ⟨by kernel_rfl, ?_⟩) (by assumption) ?_
        rotate_left
        · (intro w hSw; (try dsimp only at hSw); go_simp); all_goals (with_reducible rfl)
        try simp only [Act.put, List.setIfInBounds_toArray, List.set_cons_zero, List.set_cons_succ]
        refine wpAnyH_take (i := 8) (oi := ⟨some 29, _, _, _, _, _⟩) (v := ?_) rfl (by kernel_rfl) (by kernel_rfl) (by kernel_rfl) (fun _ _ _ h => h) (Or.inl ⟨by kernel_rfl, ?_⟩) (by assumption) ?_
        rotate_left
        · (intro w hSw; (try dsimp only at hSw); go_simp); all_goals (with_reducible rfl)
        try simp only [Act.put, List.setIfInBounds_toArray, List.set_cons_zero, List.set_cons_succ]
        refine wpAnyH_take (i := 9) (oi := ⟨some 30, _, _, _, _, _⟩) (v := ?_) rfl (by kernel_rfl) (by kernel_rfl) (by kernel_rfl) (fun _ _ _ h => h) (Or.inl ⟨by kernel_rfl, ?_⟩) (by assumption) ?_
        rotate_left
        · (intro w hSw; (try dsimp only at hSw); (obtain ⟨c1, c2, c3, c4, c5, c6⟩ := hSw); go_simp); all_goals (with_reducible rfl)
        try simp only [Act.put, List.setIfInBounds_toArray, List.set_cons_zero, List.set_cons_succ]
        refine wpAnyH_take (i := 10) (oi := ⟨some 31, _, _, _, _, _⟩) (v := ?_) rfl (by kernel_rfl) (by kernel_rfl) (by kernel_rfl) (fun _ _ _ h => h) (Or.inl ⟨by kernel_rfl, ?_⟩) (by assumption) ?_
        rotate_left
        · (intro w hSw; (try dsimp only at hSw); go_simp); all_goals (with_reducible rfl)
        try simp only [Act.put, List.setIfInBounds_toArray, List.set_cons_zero, List.set_cons_succ]
        refine wpAnyH_take (i := 11) (oi := ⟨some 32, _, _, _, _, _⟩) (v := ?_) rfl (by kernel_rfl) (by kernel_rfl) (by kernel_rfl) (fun _ _ _ h => h) (Or.inl ⟨by kernel_rfl, ?_⟩) (by assumption) ?_
        rotate_left
        · (intro w hSw; (try dsimp only at hSw); go_simp); all_goals (with_reducible rfl)
        try simp only [Act.put, List.setIfInBounds_toArray, List.set_cons_zero, List.set_cons_succ]
        refine wpAnyH_take (i := 12) (oi := ⟨some 33, _, _, _, _, _⟩) (v := ?_) rfl (by kernel_rfl) (by kernel_rfl) (by kernel_rfl) (fun _ _ _ h => h) (Or.inl ⟨by kernel_rfl, ?_⟩) (by assumption) ?_
        rotate_left
        · (intro w hSw; (try dsimp only at hSw); (obtain ⟨c1, c2, c3, c4, c5, c6⟩ := hSw); go_simp); all_goals (with_reducible rfl)
        try simp only [Act.put, List.setIfInBounds_toArray, List.set_cons_zero, List.set_cons_succ]
        refine wpAnyH_take (i := 13) (oi := ⟨some 34, _, _, _, _, _⟩) (v := ?_) rfl (by kernel_rfl) (by kernel_rfl) (by kernel_rfl) (fun _ _ _ h => h) (Or.inl ⟨by kernel_rfl, ?_⟩) (by assumption) ?_
        rotate_left
        · (intro w hSw; (try dsimp only at hSw); go_simp); all_goals (with_reducible rfl)
        try simp only [Act.put, List.setIfInBounds_toArray, List.set_cons_zero, List.set_cons_succ]
        refine wpAnyH_take (i := 14) (oi := ⟨some 35, _, _, _, _, _⟩) (v := ?_) rfl (by kernel_rfl) (by kernel_rfl) (by kernel_rfl) (fun _ _ _ h => h) (Or.inl ⟨by kernel_rfl, ?_⟩) (by assumption) ?_
        rotate_left
        · (intro w hSw; (try dsimp only at hSw); go_simp); all_goals (with_reducible rfl)
        try simp only [Act.put, List.setIfInBounds_toArray, List.set_cons_zero, List.set_cons_succ]
        refine wpAnyH_take (i := 15) (oi := ⟨some 36, _, _, _, _, _⟩) (v := ?_) rfl (by kernel_rfl) (by kernel_rfl) (by kernel_rfl) (fun _ _ _ h => h) (Or.inl ⟨by kernel_rfl, ?_⟩) (by assumption) ?_
        rotate_left
        · (intro w hSw; (try dsimp only at hSw); (obtain ⟨c1, c2, c3, c4, c5, c6⟩ := hSw); go_simp); all_goals (with_reducible rfl)
        try simp only [Act.put, List.setIfInBounds_toArray, List.set_cons_zero, List.set_cons_succ]
        refine wpAnyH_take (i := 16) (oi := ⟨some 37, _, _, _, _, _⟩) (v := ?_) rfl (by kernel_rfl) (by kernel_rfl) (by kernel_rfl) (fun _ _ _ h => h) (Or.inl ⟨by kernel_rfl, ?_⟩) (by assumption) ?_
        rotate_left
        · (intro w hSw; (try dsimp only at hSw); go_simp); all_goals (with_reducible rfl)
        try simp only [Act.put, List.setIfInBounds_toArray, List.set_cons_zero, List.set_cons_succ]
        refine wpAnyH_take (i := 17) (oi := ⟨some 38, _, _, _, _, _⟩) (v := ?_) rfl (by kernel_rfl) (by kernel_rfl) (by kernel_rfl) (fun _ _ _ h => h) (Or.inl ⟨by kernel_rfl, ?_⟩) (by assumption) ?_
        rotate_left
        · (intro w hSw; (try dsimp only at hSw); go_simp); all_goals (with_reducible rfl)
        try simp only [Act.put, List.setIfInBounds_toArray, List.set_cons_zero, List.set_cons_succ]
        refine wpAnyH_take (i := 18) (oi := ⟨some 39, _, _, _, _, _⟩) (v := ?_) rfl (by kernel_rfl) (by kernel_rfl) (by kernel_rfl) (fun _ _ _ h => h) (Or.inl ⟨by kernel_rfl, ?_⟩) (by assumption) ?_
        rotate_left
        · (intro w hSw; (try dsimp only at hSw); (obtain ⟨c1, c2, c3, c4, c5, c6⟩ := hSw); go_simp); all_goals (with_reducible rfl)
        try simp only [Act.put, List.setIfInBounds_toArray, List.set_cons_zero, List.set_cons_succ]
        refine wpAnyH_ready (rs := [3, 21]) (by kernel_rfl) (by simp) ?_
        refine (AllReadyH.cons (o := ⟨some 24, _, _, _, _, _⟩) rfl (fun K hK => ?_) (AllReadyH.cons (o := ⟨some 6, _, _, _, _, _⟩) rfl (fun K hK => ?_) AllReadyH.nil))
        · rw [if_pos (by kernel_rfl)]
          refine wp_call_go Tryz.func68 (by kernel_rfl) (by kernel_rfl) (by rfl) (V1.out _) (by rfl) ?_
          rintro e w' ⟨rfl, rfl⟩
          refine ⟨_, rfl, ?_⟩
          refine hK.out _ _ (by assumption) (fun _ => ?_)
          clear hK K
          try simp only [Act.put, List.setIfInBounds_toArray, List.set_cons_zero, List.set_cons_succ]
          refine wpAnyH_ready (rs := [19, 21]) (by kernel_rfl) (by simp) ?_
          refine (AllReadyH.cons (o := ⟨some 40, _, _, _, _, _⟩) rfl (fun K hK => ?_) (AllReadyH.cons (o := ⟨some 6, _, _, _, _, _⟩) rfl (fun K hK => ?_) AllReadyH.nil))
          · rw [if_pos (by kernel_rfl)]
            refine wp_call_go Tryz.func68 (by kernel_rfl) (by kernel_rfl) (by rfl) (V6.out _) (by rfl) ?_
            rintro e w' ⟨rfl, rfl⟩
            refine ⟨_, rfl, ?_⟩
            refine hK.out _ _ (by assumption) (fun _ => ?_)
            clear hK K
            try simp only [Act.put, List.setIfInBounds_toArray, List.set_cons_zero, List.set_cons_succ]
            refine wpAnyH_take (i := 20) (oi := ⟨some 41, _, _, _, _, _⟩) (v := ?_) rfl (by kernel_rfl) (by kernel_rfl) (by kernel_rfl) (fun _ _ _ h => h) (Or.inl ⟨by kernel_rfl, ?_⟩) (by assumption) ?_
            rotate_left
            · (intro w hSw; (try dsimp only at hSw); go_simp); all_goals (with_reducible rfl)
            try simp only [Act.put, List.setIfInBounds_toArray, List.set_cons_zero, List.set_cons_succ]
            refine wpAnyH_ready (rs := [21]) (by kernel_rfl) (by simp) ?_
            refine (AllReadyH.cons (o := ⟨some 6, _, _, _, _, _⟩) rfl (fun K hK => ?_) AllReadyH.nil)
            rw [if_pos (by kernel_rfl)]
            go_wp2_with fail
            have hSx : (fun W : World => W.cell? ⟨g, off + 1, none⟩ = some (.string ⟨t1.toArray⟩) ∧ W.cell? ⟨g, off + 2, none⟩ = some (.string ⟨t2.toArray⟩) ∧ W.cell? ⟨g, off + 3, none⟩ = some (.string ⟨t3.toArray⟩) ∧ W.cell? ⟨g, off + 4, none⟩ = some (.string ⟨t4.toArray⟩) ∧ W.cell? ⟨g, off + 5, none⟩ = some (.string ⟨t5.toArray⟩) ∧ W.cell? ⟨g, off + 6, none⟩ = some (.string ⟨t6.toArray⟩)) w1 := by assumption
            have hSy : (fun W : World => W.cell? ⟨g, off + 1, none⟩ = some (.string ⟨t1.toArray⟩) ∧ W.cell? ⟨g, off + 2, none⟩ = some (.string ⟨t2.toArray⟩) ∧ W.cell? ⟨g, off + 3, none⟩ = some (.string ⟨t3.toArray⟩) ∧ W.cell? ⟨g, off + 4, none⟩ = some (.string ⟨t4.toArray⟩) ∧ W.cell? ⟨g, off + 5, none⟩ = some (.string ⟨t5.toArray⟩) ∧ W.cell? ⟨g, off + 6, none⟩ = some (.string ⟨t6.toArray⟩)) (w1.alloc (.cells upZero 52)) := by obtain ⟨c1, c2, c3, c4, c5, c6⟩ := hSx; exact ⟨cell_past _ c1, cell_past _ c2, cell_past _ c3, cell_past _ c4, cell_past _ c5, cell_past _ c6⟩
            have Bv3 := Lib.hid (Bw1.out.alloc Bw1.out.size (.cells upZero 52))
            have Zv3 : Hid ((w1.alloc (.cells upZero 52)).heap[w.heap.size]? = some (.cells upZero 52 (0, 0))) := (Below.heap_alloc _ _ _ (Array.getElem?_eq_some_iff.1 Zw1.out).1).trans Zw1.out
            have Xv3 : Hid ((w1.alloc (.cells upZero 52)).heap[w1.heap.size]? = some (.cells upZero 52 (0, 0)) ∧ w.heap.size < w1.heap.size ∧ g < w1.heap.size) := ⟨heap_alloc_new _ _, (Array.getElem?_eq_some_iff.1 Zw1.out).1, World.block_lt_of_cell? _ _ hSx.1⟩
            refine hK.out _ (w1.alloc (.cells upZero 52)) hSy (fun hSz => ?_)
            clear hSx hSy
            generalize w1.alloc (.cells upZero 52) = v3 at Bv3 Zv3 Xv3 hSz ⊢
            generalize w1.heap.size = gB at Xv3 ⊢
            clear hK K
            try simp only [Act.put, List.setIfInBounds_toArray, List.set_cons_zero, List.set_cons_succ]
            refine wpAnyH_ready (rs := [22]) (by kernel_rfl) (by simp) ?_
            refine (AllReadyH.cons (o := ⟨none, _, _, _, _, _⟩) rfl (fun K hK => ?_) AllReadyH.nil)
            rw [if_pos (by kernel_rfl)]
            refine wp_store_row 52 _ _ (by rfl) _ #[.int .i64 n1, .string ⟨t2.toArray⟩, .string ⟨t3.toArray⟩, .string ⟨t4.toArray⟩, .string ⟨t5.toArray⟩, .int .i64 n6, .slice none 0 0] (by rfl) (by rfl) 52 upZero (Xv3.out).1 (by kernel_rfl) (by kernel_rfl) (by kernel_rfl) ?_
            have hSx : (fun W : World => W.cell? ⟨g, off + 1, none⟩ = some (.string ⟨t1.toArray⟩) ∧ W.cell? ⟨g, off + 2, none⟩ = some (.string ⟨t2.toArray⟩) ∧ W.cell? ⟨g, off + 3, none⟩ = some (.string ⟨t3.toArray⟩) ∧ W.cell? ⟨g, off + 4, none⟩ = some (.string ⟨t4.toArray⟩) ∧ W.cell? ⟨g, off + 5, none⟩ = some (.string ⟨t5.toArray⟩) ∧ W.cell? ⟨g, off + 6, none⟩ = some (.string ⟨t6.toArray⟩)) v3 := by assumption
            have hlg := (Xv3.out).2
            have hSy : (fun W : World => W.cell? ⟨g, off + 1, none⟩ = some (.string ⟨t1.toArray⟩) ∧ W.cell? ⟨g, off + 2, none⟩ = some (.string ⟨t2.toArray⟩) ∧ W.cell? ⟨g, off + 3, none⟩ = some (.string ⟨t3.toArray⟩) ∧ W.cell? ⟨g, off + 4, none⟩ = some (.string ⟨t4.toArray⟩) ∧ W.cell? ⟨g, off + 5, none⟩ = some (.string ⟨t5.toArray⟩) ∧ W.cell? ⟨g, off + 6, none⟩ = some (.string ⟨t6.toArray⟩)) (v3.setRow gB #[.int .i64 n1, .string ⟨t2.toArray⟩, .string ⟨t3.toArray⟩, .string ⟨t4.toArray⟩, .string ⟨t5.toArray⟩, .int .i64 n6, .slice none 0 0]) := by
              obtain ⟨c1, c2, c3, c4, c5, c6⟩ := hSx
              exact ⟨by rw [World.cell?_of_block (w := v3) (setRow_other _ _ _ _ (by simp only; omega))]; exact c1, by rw [World.cell?_of_block (w := v3) (setRow_other _ _ _ _ (by simp only; omega))]; exact c2, by rw [World.cell?_of_block (w := v3) (setRow_other _ _ _ _ (by simp only; omega))]; exact c3, by rw [World.cell?_of_block (w := v3) (setRow_other _ _ _ _ (by simp only; omega))]; exact c4, by rw [World.cell?_of_block (w := v3) (setRow_other _ _ _ _ (by simp only; omega))]; exact c5, by rw [World.cell?_of_block (w := v3) (setRow_other _ _ _ _ (by simp only; omega))]; exact c6⟩
            refine hK.out _ _ hSy (fun _ => ?_)
            clear hK K
            try simp only [Act.put]
            refine wpAnyH_done (by kernel_rfl) ?_ _
            go_wp2_with fail
            go_meet
            case rel => exact ⟨gB, rfl, setRow_heap _ _ _ _ _ _ (Xv3.out).1, (setRow_other _ _ _ _ (by have := (Xv3.out).2.1; omega)).trans Zv3.out, below_one_row _ _ _ _ _ Bv3.out (by have := (Xv3.out).2.1; omega)⟩
          · rw [if_pos (by kernel_rfl)]
            go_wp2_with fail
            have hSx : (fun W : World => W.cell? ⟨g, off + 1, none⟩ = some (.string ⟨t1.toArray⟩) ∧ W.cell? ⟨g, off + 2, none⟩ = some (.string ⟨t2.toArray⟩) ∧ W.cell? ⟨g, off + 3, none⟩ = some (.string ⟨t3.toArray⟩) ∧ W.cell? ⟨g, off + 4, none⟩ = some (.string ⟨t4.toArray⟩) ∧ W.cell? ⟨g, off + 5, none⟩ = some (.string ⟨t5.toArray⟩) ∧ W.cell? ⟨g, off + 6, none⟩ = some (.string ⟨t6.toArray⟩)) w1 := by assumption
            have hSy : (fun W : World => W.cell? ⟨g, off + 1, none⟩ = some (.string ⟨t1.toArray⟩) ∧ W.cell? ⟨g, off + 2, none⟩ = some (.string ⟨t2.toArray⟩) ∧ W.cell? ⟨g, off + 3, none⟩ = some (.string ⟨t3.toArray⟩) ∧ W.cell? ⟨g, off + 4, none⟩ = some (.string ⟨t4.toArray⟩) ∧ W.cell? ⟨g, off + 5, none⟩ = some (.string ⟨t5.toArray⟩) ∧ W.cell? ⟨g, off + 6, none⟩ = some (.string ⟨t6.toArray⟩)) (w1.alloc (.cells upZero 52)) := by obtain ⟨c1, c2, c3, c4, c5, c6⟩ := hSx; exact ⟨cell_past _ c1, cell_past _ c2, cell_past _ c3, cell_past _ c4, cell_past _ c5, cell_past _ c6⟩
            have Bv5 := Lib.hid (Bw1.out.alloc Bw1.out.size (.cells upZero 52))
            have Zv5 : Hid ((w1.alloc (.cells upZero 52)).heap[w.heap.size]? = some (.cells upZero 52 (0, 0))) := (Below.heap_alloc _ _ _ (Array.getElem?_eq_some_iff.1 Zw1.out).1).trans Zw1.out
            have Xv5 : Hid ((w1.alloc (.cells upZero 52)).heap[w1.heap.size]? = some (.cells upZero 52 (0, 0)) ∧ w.heap.size < w1.heap.size ∧ g < w1.heap.size) := ⟨heap_alloc_new _ _, (Array.getElem?_eq_some_iff.1 Zw1.out).1, World.block_lt_of_cell? _ _ hSx.1⟩
            refine hK.out _ (w1.alloc (.cells upZero 52)) hSy (fun hSz => ?_)
            clear hSx hSy
            generalize w1.alloc (.cells upZero 52) = v5 at Bv5 Zv5 Xv5 hSz ⊢
            generalize w1.heap.size = gB at Xv5 ⊢
            clear hK K
            try simp only [Act.put, List.setIfInBounds_toArray, List.set_cons_zero, List.set_cons_succ]
            refine wpAnyH_ready (rs := [19]) (by kernel_rfl) (by simp) ?_
            refine (AllReadyH.cons (o := ⟨some 40, _, _, _, _, _⟩) rfl (fun K hK => ?_) AllReadyH.nil)
            rw [if_pos (by kernel_rfl)]
            refine wp_call_go Tryz.func68 (by kernel_rfl) (by kernel_rfl) (by rfl) (V6.out _) (by rfl) ?_
            rintro e w' ⟨rfl, rfl⟩
            refine ⟨_, rfl, ?_⟩
            refine hK.out _ _ (by assumption) (fun _ => ?_)
            clear hK K
            try simp only [Act.put, List.setIfInBounds_toArray, List.set_cons_zero, List.set_cons_succ]
            refine wpAnyH_take (i := 20) (oi := ⟨some 41, _, _, _, _, _⟩) (v := ?_) rfl (by kernel_rfl) (by kernel_rfl) (by kernel_rfl) (fun _ _ _ h => h) (Or.inl ⟨by kernel_rfl, ?_⟩) (by assumption) ?_
            rotate_left
            · (intro w hSw; (try dsimp only at hSw); go_simp); all_goals (with_reducible rfl)
            try simp only [Act.put, List.setIfInBounds_toArray, List.set_cons_zero, List.set_cons_succ]
            refine wpAnyH_ready (rs := [22]) (by kernel_rfl) (by simp) ?_
            refine (AllReadyH.cons (o := ⟨none, _, _, _, _, _⟩) rfl (fun K hK => ?_) AllReadyH.nil)
            rw [if_pos (by kernel_rfl)]
            refine wp_store_row 52 _ _ (by rfl) _ #[.int .i64 n1, .string ⟨t2.toArray⟩, .string ⟨t3.toArray⟩, .string ⟨t4.toArray⟩, .string ⟨t5.toArray⟩, .int .i64 n6, .slice none 0 0] (by rfl) (by rfl) 52 upZero (Xv5.out).1 (by kernel_rfl) (by kernel_rfl) (by kernel_rfl) ?_
            have hSx : (fun W : World => W.cell? ⟨g, off + 1, none⟩ = some (.string ⟨t1.toArray⟩) ∧ W.cell? ⟨g, off + 2, none⟩ = some (.string ⟨t2.toArray⟩) ∧ W.cell? ⟨g, off + 3, none⟩ = some (.string ⟨t3.toArray⟩) ∧ W.cell? ⟨g, off + 4, none⟩ = some (.string ⟨t4.toArray⟩) ∧ W.cell? ⟨g, off + 5, none⟩ = some (.string ⟨t5.toArray⟩) ∧ W.cell? ⟨g, off + 6, none⟩ = some (.string ⟨t6.toArray⟩)) v5 := by assumption
            have hlg := (Xv5.out).2
            have hSy : (fun W : World => W.cell? ⟨g, off + 1, none⟩ = some (.string ⟨t1.toArray⟩) ∧ W.cell? ⟨g, off + 2, none⟩ = some (.string ⟨t2.toArray⟩) ∧ W.cell? ⟨g, off + 3, none⟩ = some (.string ⟨t3.toArray⟩) ∧ W.cell? ⟨g, off + 4, none⟩ = some (.string ⟨t4.toArray⟩) ∧ W.cell? ⟨g, off + 5, none⟩ = some (.string ⟨t5.toArray⟩) ∧ W.cell? ⟨g, off + 6, none⟩ = some (.string ⟨t6.toArray⟩)) (v5.setRow gB #[.int .i64 n1, .string ⟨t2.toArray⟩, .string ⟨t3.toArray⟩, .string ⟨t4.toArray⟩, .string ⟨t5.toArray⟩, .int .i64 n6, .slice none 0 0]) := by
              obtain ⟨c1, c2, c3, c4, c5, c6⟩ := hSx
              exact ⟨by rw [World.cell?_of_block (w := v5) (setRow_other _ _ _ _ (by simp only; omega))]; exact c1, by rw [World.cell?_of_block (w := v5) (setRow_other _ _ _ _ (by simp only; omega))]; exact c2, by rw [World.cell?_of_block (w := v5) (setRow_other _ _ _ _ (by simp only; omega))]; exact c3, by rw [World.cell?_of_block (w := v5) (setRow_other _ _ _ _ (by simp only; omega))]; exact c4, by rw [World.cell?_of_block (w := v5) (setRow_other _ _ _ _ (by simp only; omega))]; exact c5, by rw [World.cell?_of_block (w := v5) (setRow_other _ _ _ _ (by simp only; omega))]; exact c6⟩
            refine hK.out _ _ hSy (fun _ => ?_)
            clear hK K
            try simp only [Act.put]
            refine wpAnyH_done (by kernel_rfl) ?_ _
            go_wp2_with fail
            go_meet
            case rel => exact ⟨gB, rfl, setRow_heap _ _ _ _ _ _ (Xv5.out).1, (setRow_other _ _ _ _ (by have := (Xv5.out).2.1; omega)).trans Zv5.out, below_one_row _ _ _ _ _ Bv5.out (by have := (Xv5.out).2.1; omega)⟩
        · rw [if_pos (by kernel_rfl)]
          go_wp2_with fail
          have hSx : (fun W : World => W.cell? ⟨g, off + 1, none⟩ = some (.string ⟨t1.toArray⟩) ∧ W.cell? ⟨g, off + 2, none⟩ = some (.string ⟨t2.toArray⟩) ∧ W.cell? ⟨g, off + 3, none⟩ = some (.string ⟨t3.toArray⟩) ∧ W.cell? ⟨g, off + 4, none⟩ = some (.string ⟨t4.toArray⟩) ∧ W.cell? ⟨g, off + 5, none⟩ = some (.string ⟨t5.toArray⟩) ∧ W.cell? ⟨g, off + 6, none⟩ = some (.string ⟨t6.toArray⟩)) w1 := by assumption
          have hSy : (fun W : World => W.cell? ⟨g, off + 1, none⟩ = some (.string ⟨t1.toArray⟩) ∧ W.cell? ⟨g, off + 2, none⟩ = some (.string ⟨t2.toArray⟩) ∧ W.cell? ⟨g, off + 3, none⟩ = some (.string ⟨t3.toArray⟩) ∧ W.cell? ⟨g, off + 4, none⟩ = some (.string ⟨t4.toArray⟩) ∧ W.cell? ⟨g, off + 5, none⟩ = some (.string ⟨t5.toArray⟩) ∧ W.cell? ⟨g, off + 6, none⟩ = some (.string ⟨t6.toArray⟩)) (w1.alloc (.cells upZero 52)) := by obtain ⟨c1, c2, c3, c4, c5, c6⟩ := hSx; exact ⟨cell_past _ c1, cell_past _ c2, cell_past _ c3, cell_past _ c4, cell_past _ c5, cell_past _ c6⟩
          have Bv8 := Lib.hid (Bw1.out.alloc Bw1.out.size (.cells upZero 52))
          have Zv8 : Hid ((w1.alloc (.cells upZero 52)).heap[w.heap.size]? = some (.cells upZero 52 (0, 0))) := (Below.heap_alloc _ _ _ (Array.getElem?_eq_some_iff.1 Zw1.out).1).trans Zw1.out
          have Xv8 : Hid ((w1.alloc (.cells upZero 52)).heap[w1.heap.size]? = some (.cells upZero 52 (0, 0)) ∧ w.heap.size < w1.heap.size ∧ g < w1.heap.size) := ⟨heap_alloc_new _ _, (Array.getElem?_eq_some_iff.1 Zw1.out).1, World.block_lt_of_cell? _ _ hSx.1⟩
          refine hK.out _ (w1.alloc (.cells upZero 52)) hSy (fun hSz => ?_)
          clear hSx hSy
          generalize w1.alloc (.cells upZero 52) = v8 at Bv8 Zv8 Xv8 hSz ⊢
          generalize w1.heap.size = gB at Xv8 ⊢
          clear hK K
          try simp only [Act.put, List.setIfInBounds_toArray, List.set_cons_zero, List.set_cons_succ]
          refine wpAnyH_ready (rs := [3]) (by kernel_rfl) (by simp) ?_
          refine (AllReadyH.cons (o := ⟨some 24, _, _, _, _, _⟩) rfl (fun K hK => ?_) AllReadyH.nil)
          rw [if_pos (by kernel_rfl)]
          refine wp_call_go Tryz.func68 (by kernel_rfl) (by kernel_rfl) (by rfl) (V1.out _) (by rfl) ?_
          rintro e w' ⟨rfl, rfl⟩
          refine ⟨_, rfl, ?_⟩
          refine hK.out _ _ (by assumption) (fun _ => ?_)
          clear hK K
          try simp only [Act.put, List.setIfInBounds_toArray, List.set_cons_zero, List.set_cons_succ]
          refine wpAnyH_ready (rs := [19]) (by kernel_rfl) (by simp) ?_
          refine (AllReadyH.cons (o := ⟨some 40, _, _, _, _, _⟩) rfl (fun K hK => ?_) AllReadyH.nil)
          rw [if_pos (by kernel_rfl)]
          refine wp_call_go Tryz.func68 (by kernel_rfl) (by kernel_rfl) (by rfl) (V6.out _) (by rfl) ?_
          rintro e w' ⟨rfl, rfl⟩
          refine ⟨_, rfl, ?_⟩
          refine hK.out _ _ (by assumption) (fun _ => ?_)
          clear hK K
          try simp only [Act.put, List.setIfInBounds_toArray, List.set_cons_zero, List.set_cons_succ]
          refine wpAnyH_take (i := 20) (oi := ⟨some 41, _, _, _, _, _⟩) (v := ?_) rfl (by kernel_rfl) (by kernel_rfl) (by kernel_rfl) (fun _ _ _ h => h) (Or.inl ⟨by kernel_rfl, ?_⟩) (by assumption) ?_
          rotate_left
          · (intro w hSw; (try dsimp only at hSw); go_simp); all_goals (with_reducible rfl)
          try simp only [Act.put, List.setIfInBounds_toArray, List.set_cons_zero, List.set_cons_succ]
          refine wpAnyH_ready (rs := [22]) (by kernel_rfl) (by simp) ?_
          refine (AllReadyH.cons (o := ⟨none, _, _, _, _, _⟩) rfl (fun K hK => ?_) AllReadyH.nil)
          rw [if_pos (by kernel_rfl)]
          refine wp_store_row 52 _ _ (by rfl) _ #[.int .i64 n1, .string ⟨t2.toArray⟩, .string ⟨t3.toArray⟩, .string ⟨t4.toArray⟩, .string ⟨t5.toArray⟩, .int .i64 n6, .slice none 0 0] (by rfl) (by rfl) 52 upZero (Xv8.out).1 (by kernel_rfl) (by kernel_rfl) (by kernel_rfl) ?_
          have hSx : (fun W : World => W.cell? ⟨g, off + 1, none⟩ = some (.string ⟨t1.toArray⟩) ∧ W.cell? ⟨g, off + 2, none⟩ = some (.string ⟨t2.toArray⟩) ∧ W.cell? ⟨g, off + 3, none⟩ = some (.string ⟨t3.toArray⟩) ∧ W.cell? ⟨g, off + 4, none⟩ = some (.string ⟨t4.toArray⟩) ∧ W.cell? ⟨g, off + 5, none⟩ = some (.string ⟨t5.toArray⟩) ∧ W.cell? ⟨g, off + 6, none⟩ = some (.string ⟨t6.toArray⟩)) v8 := by assumption
          have hlg := (Xv8.out).2
          have hSy : (fun W : World => W.cell? ⟨g, off + 1, none⟩ = some (.string ⟨t1.toArray⟩) ∧ W.cell? ⟨g, off + 2, none⟩ = some (.string ⟨t2.toArray⟩) ∧ W.cell? ⟨g, off + 3, none⟩ = some (.string ⟨t3.toArray⟩) ∧ W.cell? ⟨g, off + 4, none⟩ = some (.string ⟨t4.toArray⟩) ∧ W.cell? ⟨g, off + 5, none⟩ = some (.string ⟨t5.toArray⟩) ∧ W.cell? ⟨g, off + 6, none⟩ = some (.string ⟨t6.toArray⟩)) (v8.setRow gB #[.int .i64 n1, .string ⟨t2.toArray⟩, .string ⟨t3.toArray⟩, .string ⟨t4.toArray⟩, .string ⟨t5.toArray⟩, .int .i64 n6, .slice none 0 0]) := by
            obtain ⟨c1, c2, c3, c4, c5, c6⟩ := hSx
            exact ⟨by rw [World.cell?_of_block (w := v8) (setRow_other _ _ _ _ (by simp only; omega))]; exact c1, by rw [World.cell?_of_block (w := v8) (setRow_other _ _ _ _ (by simp only; omega))]; exact c2, by rw [World.cell?_of_block (w := v8) (setRow_other _ _ _ _ (by simp only; omega))]; exact c3, by rw [World.cell?_of_block (w := v8) (setRow_other _ _ _ _ (by simp only; omega))]; exact c4, by rw [World.cell?_of_block (w := v8) (setRow_other _ _ _ _ (by simp only; omega))]; exact c5, by rw [World.cell?_of_block (w := v8) (setRow_other _ _ _ _ (by simp only; omega))]; exact c6⟩
          refine hK.out _ _ hSy (fun _ => ?_)
          clear hK K
          try simp only [Act.put]
          refine wpAnyH_done (by kernel_rfl) ?_ _
          go_wp2_with fail
          go_meet
          case rel => exact ⟨gB, rfl, setRow_heap _ _ _ _ _ _ (Xv8.out).1, (setRow_other _ _ _ _ (by have := (Xv8.out).2.1; omega)).trans Zv8.out, below_one_row _ _ _ _ _ Bv8.out (by have := (Xv8.out).2.1; omega)⟩
      case rest =>
        obtain ⟨gB, rfl, h1, h2, h3⟩ := hcut
        obtain ⟨wx, rfl⟩ : ∃ wx : World, wx = wc := ⟨_, rfl⟩
        have H1 := Lib.hid h1
        have H2 := Lib.hid h2
        have H3 := Lib.hid h3
        clear h1 h2 h3 V1 V6
        go_wp2_with (refine wpList_load_row (by rfl) 52 _ (by rfl) gB (by rfl) 52 _ (0, 0) _ (by exact H1.out) Tryz.underlying52 rfl (by kernel_rfl) ?_)
        refine (HTP.out _).mono ?_
        rintro e w2 ⟨rfl, hb2⟩
        have B2 := Lib.hid (H3.out.trans (hb2.mono H3.out.size))
        have X2 := Lib.hid ((hb2.block _ (Array.getElem?_eq_some_iff.1 H1.out).1).trans H1.out)
        have Z2 := Lib.hid ((hb2.block _ (Array.getElem?_eq_some_iff.1 H2.out).1).trans H2.out)
        clear hb2 H1 H2 H3 HTP
        cases rb with
        | false =>
          have HN : Hid (res = none) := HX.out (fun h => by cases h.1)
          clear HX HY
          go_wp2_with (refine wpList_store_row (by rfl) 52 _ _ (by rfl) w.heap.size upZero (by rfl) (by rfl) 52 _ (by exact Z2.out) (by kernel_rfl) (by kernel_rfl) (by kernel_rfl) ?_)
          refine bodyPost_ret (results_cell_tmp rfl _ _ w.heap.size 52 _ _ rfl (setRow_heap _ _ _ _ _ _ Z2.out) Tryz.underlying52 rfl (by kernel_rfl)) rfl ?_
          rw [HN.out]
          exact ⟨rfl, below_one_row _ _ _ _ _ B2.out (Nat.le_refl _)⟩
        | true =>
          cases hq : (X == s) with
          | false =>
            have HN : Hid (res = none) := HX.out (fun h => by rw [beq_eq_false_iff_ne] at hq; exact hq h.2)
            clear HX HY
            go_wp2_with (refine wpList_store_row (by rfl) 52 _ _ (by rfl) w.heap.size upZero (by rfl) (by rfl) 52 _ (by exact Z2.out) (by kernel_rfl) (by kernel_rfl) (by kernel_rfl) ?_)
            refine bodyPost_ret (results_cell_tmp rfl _ _ w.heap.size 52 _ _ rfl (setRow_heap _ _ _ _ _ _ Z2.out) Tryz.underlying52 rfl (by kernel_rfl)) rfl ?_
            rw [HN.out]
            exact ⟨rfl, below_one_row _ _ _ _ _ B2.out (Nat.le_refl _)⟩
          | true =>
            have HN : Hid (res = some ⟨n1, t2, t3, t4, t5, n6⟩) := HY.out rfl (by simpa using hq)
            clear HX HY
            go_wp2_with (first
              | (refine wpList_load_row (by rfl) 52 _ (by rfl) gB (by rfl) 52 _ (0, 0) _ (by exact X2.out) Tryz.underlying52 rfl (by kernel_rfl) ?_)
              | (refine wpList_store_row (by rfl) 52 _ _ (by rfl) w.heap.size _ (by rfl) (by rfl) 52 _ (by exact Z2.out) (by kernel_rfl) (by kernel_rfl) (by kernel_rfl) ?_))
            refine bodyPost_ret (results_cell_tmp rfl _ _ w.heap.size 52 _ _ rfl (setRow_heap _ _ _ _ _ _ Z2.out) Tryz.underlying52 rfl (by kernel_rfl)) rfl ?_
            rw [HN.out]
            exact ⟨rfl, below_one_row _ _ _ _ _ B2.out (Nat.le_refl _)⟩
    · have HN : Hid (res = none) := hres.out.symm.trans (rUp_no ho (fun h => h6 h.1))
      have h6z : ((l.length : Int) != 7) = true := by rw [bne_iff_ne]; omega
      have h6y : ((l.length : Int) == 7) = false := by rw [beq_eq_false_iff_ne]; omega
      clear hres ho
      go_enter Tryz.func32, Tryz.ntmps32
      go_wp2_with fail
      refine (HF.out _).mono ?_
      rintro e w1 ⟨v, rfl, hsl, hb1⟩
      have B1 := Lib.hid (BZ.out.trans (hb1.mono BZ.out.size))
      have Z1 := Lib.hid ((hb1.block _ (Array.getElem?_eq_some_iff.1 HZ.out).1).trans HZ.out)
      clear hb1
      obtain ⟨a, c, rfl, _⟩ := strs_at hsl
      go_wp2_with (refine wpList_store_row (by rfl) 52 _ _ (by rfl) w.heap.size upZero (by rfl) (by rfl) 52 _ (by exact Z1.out) (by kernel_rfl) (by kernel_rfl) (by kernel_rfl) ?_)
      refine bodyPost_ret (results_cell_tmp rfl _ _ w.heap.size 52 _ _ rfl (setRow_heap _ _ _ _ _ _ Z1.out) Tryz.underlying52 rfl (by kernel_rfl)) rfl ?_
      rw [HN.out]
      exact ⟨rfl, below_one_row _ _ _ _ _ B1.out (Nat.le_refl _)⟩

end Go.Proofs.YtajmkkjlhmeolaaGreatDoor
