/-
  storehouseref19.ReadPart: the walk. (Printed by wip/gen/mfread.py.)
-/
import Derived.Test.YtajmkkjlhmeolaaGreatDoorSm36
import Derived.Test.YtajmkkjlhmeolaaGreatDoorMfText
namespace Go.Proofs.YtajmkkjlhmeolaaGreatDoor
open Go.RowKit Go.Lib Go.PlainAid

/-- the texts of a slice, one by one -/
theorem strs_at {w : World} {l : List (List UInt8)} {v : Value} (h : SlAt w 1 v (strRows l)) : ∃ a c, v = .slice a l.length c ∧ ∀ i t, l[i]? = some t → ∃ b off, a = some ⟨b, off, none⟩ ∧ w.cell? ⟨b, off + i, none⟩ = some (.string ⟨t.toArray⟩) := by
  obtain ⟨a, c, rfl, _, hc⟩ := h
  refine ⟨a, c, by rw [strRows_len], fun i t ht => ?_⟩
  obtain ⟨b, off, hb, hu⟩ := hc i [.string ⟨t.toArray⟩] (by simp [strRows, ht])
  exact ⟨b, off, hb, by have := hu 0 _ rfl; simpa using this⟩
/-- what the reference's ReadPart leaves -/
def RPartOut (o : Option PartV) (w : World) (e : Ending) (w' : World) : Prop :=
  e = .returned (.tuple #[.agg (match o with | some p => p.cells | none => partZero), .bool o.isSome]) ∧ Below w.heap.size w w'

set_option maxHeartbeats 4000000 in
set_option maxRecDepth 100000 in
theorem rReadPart_any (s : List UInt8) (hl : s.length ≤ 4000000000000) (w : World) : Calls Tryz.prog 33 #[.string ⟨s.toArray⟩] w (RPartOut (readPartL s) w) := by
  have HF := Lib.hid (fun W => rFields_any s hl W)
  have HT := Lib.hid (fun p W => rPartText_any p W)
  obtain ⟨res, hres⟩ : ∃ r, Hid (readPartL s = r) := ⟨_, rfl⟩
  rw [hres.out]
  obtain ⟨o, ho⟩ : ∃ o, fieldsL s = o := ⟨_, rfl⟩
  rw [ho] at HF
  have HZ : Hid ((w.alloc (.cells partZero 56)).heap[w.heap.size]? = some (.cells partZero 56 (0, 0))) := heap_alloc_new _ _
  have BZ : Hid (Below w.heap.size w (w.alloc (.cells partZero 56))) := below_alloc (Below.refl _ _) (Nat.le_refl _) _
  cases o with
  | none =>
    have HN : Hid (res = none) := hres.out.symm.trans (rPart_none ho)
    clear hres ho
    go_enter Tryz.func33, Tryz.ntmps33
    go_wp2_with fail
    refine (HF.out _).mono ?_
    rintro e w1 ⟨v, rfl, hsl, hb1⟩
    have B1 := Lib.hid (BZ.out.trans (hb1.mono BZ.out.size))
    have Z1 := Lib.hid ((hb1.block _ (Array.getElem?_eq_some_iff.1 HZ.out).1).trans HZ.out)
    clear hb1
    go_wp2_with (refine wpList_store_row (by rfl) 56 _ _ (by rfl) w.heap.size partZero (by rfl) (by rfl) 56 _ (by exact Z1.out) (by kernel_rfl) (by kernel_rfl) (by kernel_rfl) ?_)
    refine bodyPost_ret (results_cell_tmp rfl _ _ w.heap.size 56 _ _ rfl (setRow_heap _ _ _ _ _ _ Z1.out) Tryz.underlying56 rfl (by kernel_rfl)) rfl ?_
    rw [HN.out]
    exact ⟨rfl, below_one_row _ _ _ _ _ B1.out (Nat.le_refl _)⟩
  | some l =>
    by_cases h6 : l.length = 6
    · obtain ⟨t0, t1, t2, t3, t4, t5, rfl⟩ : ∃ t0 t1 t2 t3 t4 t5, l = [t0, t1, t2, t3, t4, t5] := by
        match l, h6 with
        | [t0, t1, t2, t3, t4, t5], _ => exact ⟨t0, t1, t2, t3, t4, t5, rfl⟩
      have hm := fieldsL_mem ho
      have V1 := Lib.hid (fun W => rValue_any t1 (by have := hm t1 (by simp); omega) W)
      have V2 := Lib.hid (fun W => rValue_any t2 (by have := hm t2 (by simp); omega) W)
      have V3 := Lib.hid (fun W => rValue_any t3 (by have := hm t3 (by simp); omega) W)
      have V5 := Lib.hid (fun W => rValue_any t5 (by have := hm t5 (by simp); omega) W)
      have hY : ∀ R : PartV, rPartC [t0, t1, t2, t3, t4, t5] = R → partRB R = true → partL R = s → res = some R := fun R e h1 h2 => by
        subst e
        exact hres.out.symm.trans (rPart_yes ho rfl ((partRB_iff _).1 h1) h2)
      have hX : ∀ R : PartV, rPartC [t0, t1, t2, t3, t4, t5] = R → ¬ (partRB R = true ∧ partL R = s) → res = none := fun R e h => by
        subst e
        exact hres.out.symm.trans (rPart_no ho (fun h' => h ⟨(partRB_iff _).2 h'.2.1, h'.2.2⟩))
      have hc : rPartC [t0, t1, t2, t3, t4, t5] = ⟨valueL t1, valueL t2, valueL t3, t4, valueL t5⟩ := rfl
      have HY := Lib.hid (hY _ hc)
      have HX := Lib.hid (hX _ hc)
      clear hY hX hc hm ho hres
      generalize valueL t1 = n1 at V1 HY HX
      generalize valueL t2 = n2 at V2 HY HX
      generalize valueL t3 = n3 at V3 HY HX
      generalize valueL t5 = n5 at V5 HY HX
      have HTP := Lib.hid (HT.out ⟨n1, n2, n3, t4, n5⟩)
      obtain ⟨X, hX⟩ : ∃ X, partL ⟨n1, n2, n3, t4, n5⟩ = X := ⟨_, rfl⟩
      obtain ⟨rb, hrb⟩ : ∃ x, partRB ⟨n1, n2, n3, t4, n5⟩ = x := ⟨_, rfl⟩
      rw [hX, hrb] at HTP HY HX
      clear hX hrb HT
      go_enter Tryz.func33, Tryz.ntmps33
      go_wp2_with fail
      refine (HF.out _).mono ?_
      rintro e w1 ⟨v, rfl, hsl, hb1⟩
      have B1 := Lib.hid (BZ.out.trans (hb1.mono BZ.out.size))
      have Z1 := Lib.hid ((hb1.block _ (Array.getElem?_eq_some_iff.1 HZ.out).1).trans HZ.out)
      clear hb1
      obtain ⟨a, c, rfl, hat⟩ := strs_at hsl
      obtain ⟨g, off, rfl, _⟩ := hat 0 t0 rfl
      have hS1 : (fun W : World => W.cell? ⟨g, off + 1, none⟩ = some (.string ⟨t1.toArray⟩) ∧ W.cell? ⟨g, off + 2, none⟩ = some (.string ⟨t2.toArray⟩) ∧ W.cell? ⟨g, off + 3, none⟩ = some (.string ⟨t3.toArray⟩) ∧ W.cell? ⟨g, off + 4, none⟩ = some (.string ⟨t4.toArray⟩) ∧ W.cell? ⟨g, off + 5, none⟩ = some (.string ⟨t5.toArray⟩)) w1 := by
        refine ⟨?_, ?_, ?_, ?_, ?_⟩
        · obtain ⟨_, _, he, h⟩ := hat 1 t1 rfl; simp only [Option.some.injEq, Addr.mk.injEq] at he; obtain ⟨rfl, rfl, _⟩ := he; exact h
        · obtain ⟨_, _, he, h⟩ := hat 2 t2 rfl; simp only [Option.some.injEq, Addr.mk.injEq] at he; obtain ⟨rfl, rfl, _⟩ := he; exact h
        · obtain ⟨_, _, he, h⟩ := hat 3 t3 rfl; simp only [Option.some.injEq, Addr.mk.injEq] at he; obtain ⟨rfl, rfl, _⟩ := he; exact h
        · obtain ⟨_, _, he, h⟩ := hat 4 t4 rfl; simp only [Option.some.injEq, Addr.mk.injEq] at he; obtain ⟨rfl, rfl, _⟩ := he; exact h
        · obtain ⟨_, _, he, h⟩ := hat 5 t5 rfl; simp only [Option.some.injEq, Addr.mk.injEq] at he; obtain ⟨rfl, rfl, _⟩ := he; exact h
      clear hat hsl HF HZ BZ
      go_upto_region 4 with (fail)
      go_cut [6] (fun s6 wx => ∃ gB : Nat, s6 = .pointer (some ⟨gB, 0, none⟩) ∧ wx.heap[gB]? = some (.cells #[.int .i64 n1, .int .i64 n2, .int .i64 n3, .string ⟨t4.toArray⟩, .int .i64 n5] 56 (0, 0)) ∧ wx.heap[w.heap.size]? = some (.cells partZero 56 (0, 0)) ∧ Below w.heap.size w wx)
      case first =>
        refine wp_region_held_drew (S := (fun W : World => W.cell? ⟨g, off + 1, none⟩ = some (.string ⟨t1.toArray⟩) ∧ W.cell? ⟨g, off + 2, none⟩ = some (.string ⟨t2.toArray⟩) ∧ W.cell? ⟨g, off + 3, none⟩ = some (.string ⟨t3.toArray⟩) ∧ W.cell? ⟨g, off + 4, none⟩ = some (.string ⟨t4.toArray⟩) ∧ W.cell? ⟨g, off + 5, none⟩ = some (.string ⟨t5.toArray⟩))) (by kernel_rfl) hS1 (fun hS0 => ?_)
        have Bd := Lib.hid (Below.drew B1.out)
        have Zd : Hid (w1.drew.heap[w.heap.size]? = some (.cells partZero 56 (0, 0))) := Z1.out
        clear B1 Z1 hS1
        generalize w1.drew = w1 at Bd Zd hS0 ⊢
        have Bw1 := Bd
        have Zw1 := Zd
        clear Bd Zd
        refine wpAnyH_take (i := 0) (oi := ⟨some 21, _, _, _, _, _⟩) (v := ?_) rfl (by kernel_rfl) (by kernel_rfl) (by kernel_rfl) (fun _ _ _ h => h) (Or.inl ⟨by kernel_rfl, ?_⟩) (by assumption) ?_
        rotate_left
        · (intro w hSw; (try dsimp only at hSw); go_simp); all_goals (with_reducible rfl)
        try simp only [Act.put, List.setIfInBounds_toArray, List.set_cons_zero, List.set_cons_succ]
        refine wpAnyH_take (i := 1) (oi := ⟨some 22, _, _, _, _, _⟩) (v := ?_) rfl (by kernel_rfl) (by kernel_rfl) (by kernel_rfl) (fun _ _ _ h => h) (Or.inl ⟨by kernel_rfl, ?_⟩) (by assumption) ?_
        rotate_left
        · (intro w hSw; (try dsimp only at hSw); go_simp); all_goals (with_reducible rfl)
        try simp only [Act.put, List.setIfInBounds_toArray, List.set_cons_zero, List.set_cons_succ]
        refine wpAnyH_take (i := 2) (oi := ⟨some 23, _, _, _, _, _⟩) (v := ?_) rfl (by kernel_rfl) (by kernel_rfl) (by kernel_rfl) (fun _ _ _ h => h) (Or.inl ⟨by kernel_rfl, ?_⟩) (by assumption) ?_
        rotate_left
        · (intro w hSw; (try dsimp only at hSw); (obtain ⟨c1, c2, c3, c4, c5⟩ := hSw); go_simp); all_goals (with_reducible rfl)
        try simp only [Act.put, List.setIfInBounds_toArray, List.set_cons_zero, List.set_cons_succ]
        refine wpAnyH_take (i := 4) (oi := ⟨some 25, _, _, _, _, _⟩) (v := ?_) rfl (by kernel_rfl) (by kernel_rfl) (by kernel_rfl) (fun _ _ _ h => h) (Or.inl ⟨by kernel_rfl, ?_⟩) (by assumption) ?_
        rotate_left
        · (intro w hSw; (try dsimp only at hSw); go_simp); all_goals (with_reducible rfl)
        try simp only [Act.put, List.setIfInBounds_toArray, List.set_cons_zero, List.set_cons_succ]
        refine wpAnyH_take (i := 5) (oi := ⟨some 26, _, _, _, _, _⟩) (v := ?_) rfl (by kernel_rfl) (by kernel_rfl) (by kernel_rfl) (fun _ _ _ h => h) (Or.inl ⟨by kernel_rfl, ?_⟩) (by assumption) ?_
        rotate_left
        · (intro w hSw; (try dsimp only at hSw); go_simp); all_goals (with_reducible rfl)
        try simp only [Act.put, List.setIfInBounds_toArray, List.set_cons_zero, List.set_cons_succ]
        refine wpAnyH_take (i := 6) (oi := ⟨some 27, _, _, _, _, _⟩) (v := ?_) rfl (by kernel_rfl) (by kernel_rfl) (by kernel_rfl) (fun _ _ _ h => h) (Or.inl ⟨by kernel_rfl, ?_⟩) (by assumption) ?_
        rotate_left
        · (intro w hSw; (try dsimp only at hSw); (obtain ⟨c1, c2, c3, c4, c5⟩ := hSw); go_simp); all_goals (with_reducible rfl)
        try simp only [Act.put, List.setIfInBounds_toArray, List.set_cons_zero, List.set_cons_succ]
        refine wpAnyH_take (i := 8) (oi := ⟨some 29, _, _, _, _, _⟩) (v := ?_) rfl (by kernel_rfl) (by kernel_rfl) (by kernel_rfl) (fun _ _ _ h => h) (Or.inl ⟨by kernel_rfl, ?_⟩) (by assumption) ?_
        rotate_left
        · (intro w hSw; (try dsimp only at hSw); go_simp); all_goals (with_reducible rfl)
        try simp only [Act.put, List.setIfInBounds_toArray, List.set_cons_zero, List.set_cons_succ]
        refine wpAnyH_take (i := 9) (oi := ⟨some 30, _, _, _, _, _⟩) (v := ?_) rfl (by kernel_rfl) (by kernel_rfl) (by kernel_rfl) (fun _ _ _ h => h) (Or.inl ⟨by kernel_rfl, ?_⟩) (by assumption) ?_
        rotate_left
        · (intro w hSw; (try dsimp only at hSw); go_simp); all_goals (with_reducible rfl)
        try simp only [Act.put, List.setIfInBounds_toArray, List.set_cons_zero, List.set_cons_succ]
        refine wpAnyH_take (i := 10) (oi := ⟨some 31, _, _, _, _, _⟩) (v := ?_) rfl (by kernel_rfl) (by kernel_rfl) (by kernel_rfl) (fun _ _ _ h => h) (Or.inl ⟨by kernel_rfl, ?_⟩) (by assumption) ?_
        rotate_left
        · (intro w hSw; (try dsimp only at hSw); (obtain ⟨c1, c2, c3, c4, c5⟩ := hSw); go_simp); all_goals (with_reducible rfl)
        try simp only [Act.put, List.setIfInBounds_toArray, List.set_cons_zero, List.set_cons_succ]
        refine wpAnyH_take (i := 12) (oi := ⟨some 33, _, _, _, _, _⟩) (v := ?_) rfl (by kernel_rfl) (by kernel_rfl) (by kernel_rfl) (fun _ _ _ h => h) (Or.inl ⟨by kernel_rfl, ?_⟩) (by assumption) ?_
        rotate_left
        · (intro w hSw; (try dsimp only at hSw); go_simp); all_goals (with_reducible rfl)
        try simp only [Act.put, List.setIfInBounds_toArray, List.set_cons_zero, List.set_cons_succ]
        refine wpAnyH_take (i := 13) (oi := ⟨some 34, _, _, _, _, _⟩) (v := ?_) rfl (by kernel_rfl) (by kernel_rfl) (by kernel_rfl) (fun _ _ _ h => h) (Or.inl ⟨by kernel_rfl, ?_⟩) (by assumption) ?_
        rotate_left
        · (intro w hSw; (try dsimp only at hSw); go_simp); all_goals (with_reducible rfl)
        try simp only [Act.put, List.setIfInBounds_toArray, List.set_cons_zero, List.set_cons_succ]
        refine wpAnyH_take (i := 14) (oi := ⟨some 35, _, _, _, _, _⟩) (v := ?_) rfl (by kernel_rfl) (by kernel_rfl) (by kernel_rfl) (fun _ _ _ h => h) (Or.inl ⟨by kernel_rfl, ?_⟩) (by assumption) ?_
        rotate_left
        · (intro w hSw; (try dsimp only at hSw); (obtain ⟨c1, c2, c3, c4, c5⟩ := hSw); go_simp); all_goals (with_reducible rfl)
        try simp only [Act.put, List.setIfInBounds_toArray, List.set_cons_zero, List.set_cons_succ]
        refine wpAnyH_take (i := 15) (oi := ⟨some 36, _, _, _, _, _⟩) (v := ?_) rfl (by kernel_rfl) (by kernel_rfl) (by kernel_rfl) (fun _ _ _ h => h) (Or.inl ⟨by kernel_rfl, ?_⟩) (by assumption) ?_
        rotate_left
        · (intro w hSw; (try dsimp only at hSw); go_simp); all_goals (with_reducible rfl)
        try simp only [Act.put, List.setIfInBounds_toArray, List.set_cons_zero, List.set_cons_succ]
        refine wpAnyH_take (i := 16) (oi := ⟨some 37, _, _, _, _, _⟩) (v := ?_) rfl (by kernel_rfl) (by kernel_rfl) (by kernel_rfl) (fun _ _ _ h => h) (Or.inl ⟨by kernel_rfl, ?_⟩) (by assumption) ?_
        rotate_left
        · (intro w hSw; (try dsimp only at hSw); go_simp); all_goals (with_reducible rfl)
        try simp only [Act.put, List.setIfInBounds_toArray, List.set_cons_zero, List.set_cons_succ]
        refine wpAnyH_take (i := 17) (oi := ⟨some 38, _, _, _, _, _⟩) (v := ?_) rfl (by kernel_rfl) (by kernel_rfl) (by kernel_rfl) (fun _ _ _ h => h) (Or.inl ⟨by kernel_rfl, ?_⟩) (by assumption) ?_
        rotate_left
        · (intro w hSw; (try dsimp only at hSw); (obtain ⟨c1, c2, c3, c4, c5⟩ := hSw); go_simp); all_goals (with_reducible rfl)
        try simp only [Act.put, List.setIfInBounds_toArray, List.set_cons_zero, List.set_cons_succ]
        refine wpAnyH_ready (rs := [3, 20]) (by kernel_rfl) (by simp) ?_
        refine (AllReadyH.cons (o := ⟨some 24, _, _, _, _, _⟩) rfl (fun K hK => ?_) (AllReadyH.cons (o := ⟨some 6, _, _, _, _, _⟩) rfl (fun K hK => ?_) AllReadyH.nil))
        · rw [if_pos (by kernel_rfl)]
          refine wp_call_go Tryz.func68 (by kernel_rfl) (by kernel_rfl) (by rfl) (V1.out _) (by rfl) ?_
          rintro e w' ⟨rfl, rfl⟩
          refine ⟨_, rfl, ?_⟩
          refine hK.out _ _ (by assumption) (fun _ => ?_)
          clear hK K
          try simp only [Act.put, List.setIfInBounds_toArray, List.set_cons_zero, List.set_cons_succ]
          refine wpAnyH_ready (rs := [7, 20]) (by kernel_rfl) (by simp) ?_
          refine (AllReadyH.cons (o := ⟨some 28, _, _, _, _, _⟩) rfl (fun K hK => ?_) (AllReadyH.cons (o := ⟨some 6, _, _, _, _, _⟩) rfl (fun K hK => ?_) AllReadyH.nil))
          · rw [if_pos (by kernel_rfl)]
            refine wp_call_go Tryz.func68 (by kernel_rfl) (by kernel_rfl) (by rfl) (V2.out _) (by rfl) ?_
            rintro e w' ⟨rfl, rfl⟩
            refine ⟨_, rfl, ?_⟩
            refine hK.out _ _ (by assumption) (fun _ => ?_)
            clear hK K
            try simp only [Act.put, List.setIfInBounds_toArray, List.set_cons_zero, List.set_cons_succ]
            refine wpAnyH_ready (rs := [11, 20]) (by kernel_rfl) (by simp) ?_
            refine (AllReadyH.cons (o := ⟨some 32, _, _, _, _, _⟩) rfl (fun K hK => ?_) (AllReadyH.cons (o := ⟨some 6, _, _, _, _, _⟩) rfl (fun K hK => ?_) AllReadyH.nil))
            · rw [if_pos (by kernel_rfl)]
              refine wp_call_go Tryz.func68 (by kernel_rfl) (by kernel_rfl) (by rfl) (V3.out _) (by rfl) ?_
              rintro e w' ⟨rfl, rfl⟩
              refine ⟨_, rfl, ?_⟩
              refine hK.out _ _ (by assumption) (fun _ => ?_)
              clear hK K
              try simp only [Act.put, List.setIfInBounds_toArray, List.set_cons_zero, List.set_cons_succ]
              refine wpAnyH_ready (rs := [18, 20]) (by kernel_rfl) (by simp) ?_
              refine (AllReadyH.cons (o := ⟨some 39, _, _, _, _, _⟩) rfl (fun K hK => ?_) (AllReadyH.cons (o := ⟨some 6, _, _, _, _, _⟩) rfl (fun K hK => ?_) AllReadyH.nil))
              · rw [if_pos (by kernel_rfl)]
                refine wp_call_go Tryz.func68 (by kernel_rfl) (by kernel_rfl) (by rfl) (V5.out _) (by rfl) ?_
                rintro e w' ⟨rfl, rfl⟩
                refine ⟨_, rfl, ?_⟩
                refine hK.out _ _ (by assumption) (fun _ => ?_)
                clear hK K
                try simp only [Act.put, List.setIfInBounds_toArray, List.set_cons_zero, List.set_cons_succ]
                refine wpAnyH_take (i := 19) (oi := ⟨some 40, _, _, _, _, _⟩) (v := ?_) rfl (by kernel_rfl) (by kernel_rfl) (by kernel_rfl) (fun _ _ _ h => h) (Or.inl ⟨by kernel_rfl, ?_⟩) (by assumption) ?_
                rotate_left
                · (intro w hSw; (try dsimp only at hSw); go_simp); all_goals (with_reducible rfl)
                try simp only [Act.put, List.setIfInBounds_toArray, List.set_cons_zero, List.set_cons_succ]
                refine wpAnyH_ready (rs := [20]) (by kernel_rfl) (by simp) ?_
                refine (AllReadyH.cons (o := ⟨some 6, _, _, _, _, _⟩) rfl (fun K hK => ?_) AllReadyH.nil)
                rw [if_pos (by kernel_rfl)]
                go_wp2_with fail
                have hSx : (fun W : World => W.cell? ⟨g, off + 1, none⟩ = some (.string ⟨t1.toArray⟩) ∧ W.cell? ⟨g, off + 2, none⟩ = some (.string ⟨t2.toArray⟩) ∧ W.cell? ⟨g, off + 3, none⟩ = some (.string ⟨t3.toArray⟩) ∧ W.cell? ⟨g, off + 4, none⟩ = some (.string ⟨t4.toArray⟩) ∧ W.cell? ⟨g, off + 5, none⟩ = some (.string ⟨t5.toArray⟩)) w1 := by assumption
                have hSy : (fun W : World => W.cell? ⟨g, off + 1, none⟩ = some (.string ⟨t1.toArray⟩) ∧ W.cell? ⟨g, off + 2, none⟩ = some (.string ⟨t2.toArray⟩) ∧ W.cell? ⟨g, off + 3, none⟩ = some (.string ⟨t3.toArray⟩) ∧ W.cell? ⟨g, off + 4, none⟩ = some (.string ⟨t4.toArray⟩) ∧ W.cell? ⟨g, off + 5, none⟩ = some (.string ⟨t5.toArray⟩)) (w1.alloc (.cells partZero 56)) := by obtain ⟨c1, c2, c3, c4, c5⟩ := hSx; exact ⟨cell_past _ c1, cell_past _ c2, cell_past _ c3, cell_past _ c4, cell_past _ c5⟩
                have Bv5 := Lib.hid (Bw1.out.alloc Bw1.out.size (.cells partZero 56))
                have Zv5 : Hid ((w1.alloc (.cells partZero 56)).heap[w.heap.size]? = some (.cells partZero 56 (0, 0))) := (Below.heap_alloc _ _ _ (Array.getElem?_eq_some_iff.1 Zw1.out).1).trans Zw1.out
                have Xv5 : Hid ((w1.alloc (.cells partZero 56)).heap[w1.heap.size]? = some (.cells partZero 56 (0, 0)) ∧ w.heap.size < w1.heap.size ∧ g < w1.heap.size) := ⟨heap_alloc_new _ _, (Array.getElem?_eq_some_iff.1 Zw1.out).1, World.block_lt_of_cell? _ _ hSx.1⟩
                refine hK.out _ (w1.alloc (.cells partZero 56)) hSy (fun hSz => ?_)
                clear hSx hSy
                generalize w1.alloc (.cells partZero 56) = v5 at Bv5 Zv5 Xv5 hSz ⊢
                generalize w1.heap.size = gB at Xv5 ⊢
                clear hK K
                try simp only [Act.put, List.setIfInBounds_toArray, List.set_cons_zero, List.set_cons_succ]
                refine wpAnyH_ready (rs := [21]) (by kernel_rfl) (by simp) ?_
                refine (AllReadyH.cons (o := ⟨none, _, _, _, _, _⟩) rfl (fun K hK => ?_) AllReadyH.nil)
                rw [if_pos (by kernel_rfl)]
                refine wp_store_row 56 _ _ (by rfl) _ #[.int .i64 n1, .int .i64 n2, .int .i64 n3, .string ⟨t4.toArray⟩, .int .i64 n5] (by rfl) (by rfl) 56 partZero (Xv5.out).1 (by kernel_rfl) (by kernel_rfl) (by kernel_rfl) ?_
                have hSx : (fun W : World => W.cell? ⟨g, off + 1, none⟩ = some (.string ⟨t1.toArray⟩) ∧ W.cell? ⟨g, off + 2, none⟩ = some (.string ⟨t2.toArray⟩) ∧ W.cell? ⟨g, off + 3, none⟩ = some (.string ⟨t3.toArray⟩) ∧ W.cell? ⟨g, off + 4, none⟩ = some (.string ⟨t4.toArray⟩) ∧ W.cell? ⟨g, off + 5, none⟩ = some (.string ⟨t5.toArray⟩)) v5 := by assumption
                have hlg := (Xv5.out).2
                have hSy : (fun W : World => W.cell? ⟨g, off + 1, none⟩ = some (.string ⟨t1.toArray⟩) ∧ W.cell? ⟨g, off + 2, none⟩ = some (.string ⟨t2.toArray⟩) ∧ W.cell? ⟨g, off + 3, none⟩ = some (.string ⟨t3.toArray⟩) ∧ W.cell? ⟨g, off + 4, none⟩ = some (.string ⟨t4.toArray⟩) ∧ W.cell? ⟨g, off + 5, none⟩ = some (.string ⟨t5.toArray⟩)) (v5.setRow gB #[.int .i64 n1, .int .i64 n2, .int .i64 n3, .string ⟨t4.toArray⟩, .int .i64 n5]) := by
                  obtain ⟨c1, c2, c3, c4, c5⟩ := hSx
                  exact ⟨by rw [World.cell?_of_block (w := v5) (setRow_other _ _ _ _ (by simp only; omega))]; exact c1, by rw [World.cell?_of_block (w := v5) (setRow_other _ _ _ _ (by simp only; omega))]; exact c2, by rw [World.cell?_of_block (w := v5) (setRow_other _ _ _ _ (by simp only; omega))]; exact c3, by rw [World.cell?_of_block (w := v5) (setRow_other _ _ _ _ (by simp only; omega))]; exact c4, by rw [World.cell?_of_block (w := v5) (setRow_other _ _ _ _ (by simp only; omega))]; exact c5⟩
                refine hK.out _ _ hSy (fun _ => ?_)
                clear hK K
                try simp only [Act.put]
                refine wpAnyH_done (by kernel_rfl) ?_ _
                go_wp2_with fail
                go_meet
                case rel => exact ⟨gB, rfl, setRow_heap _ _ _ _ _ _ (Xv5.out).1, (setRow_other _ _ _ _ (by have := (Xv5.out).2.1; omega)).trans Zv5.out, below_one_row _ _ _ _ _ Bv5.out (by have := (Xv5.out).2.1; omega)⟩
              · rw [if_pos (by kernel_rfl)]
                go_wp2_with fail
                have hSx : (fun W : World => W.cell? ⟨g, off + 1, none⟩ = some (.string ⟨t1.toArray⟩) ∧ W.cell? ⟨g, off + 2, none⟩ = some (.string ⟨t2.toArray⟩) ∧ W.cell? ⟨g, off + 3, none⟩ = some (.string ⟨t3.toArray⟩) ∧ W.cell? ⟨g, off + 4, none⟩ = some (.string ⟨t4.toArray⟩) ∧ W.cell? ⟨g, off + 5, none⟩ = some (.string ⟨t5.toArray⟩)) w1 := by assumption
                have hSy : (fun W : World => W.cell? ⟨g, off + 1, none⟩ = some (.string ⟨t1.toArray⟩) ∧ W.cell? ⟨g, off + 2, none⟩ = some (.string ⟨t2.toArray⟩) ∧ W.cell? ⟨g, off + 3, none⟩ = some (.string ⟨t3.toArray⟩) ∧ W.cell? ⟨g, off + 4, none⟩ = some (.string ⟨t4.toArray⟩) ∧ W.cell? ⟨g, off + 5, none⟩ = some (.string ⟨t5.toArray⟩)) (w1.alloc (.cells partZero 56)) := by obtain ⟨c1, c2, c3, c4, c5⟩ := hSx; exact ⟨cell_past _ c1, cell_past _ c2, cell_past _ c3, cell_past _ c4, cell_past _ c5⟩
                have Bv7 := Lib.hid (Bw1.out.alloc Bw1.out.size (.cells partZero 56))
                have Zv7 : Hid ((w1.alloc (.cells partZero 56)).heap[w.heap.size]? = some (.cells partZero 56 (0, 0))) := (Below.heap_alloc _ _ _ (Array.getElem?_eq_some_iff.1 Zw1.out).1).trans Zw1.out
                have Xv7 : Hid ((w1.alloc (.cells partZero 56)).heap[w1.heap.size]? = some (.cells partZero 56 (0, 0)) ∧ w.heap.size < w1.heap.size ∧ g < w1.heap.size) := ⟨heap_alloc_new _ _, (Array.getElem?_eq_some_iff.1 Zw1.out).1, World.block_lt_of_cell? _ _ hSx.1⟩
                refine hK.out _ (w1.alloc (.cells partZero 56)) hSy (fun hSz => ?_)
                clear hSx hSy
                generalize w1.alloc (.cells partZero 56) = v7 at Bv7 Zv7 Xv7 hSz ⊢
                generalize w1.heap.size = gB at Xv7 ⊢
                clear hK K
                try simp only [Act.put, List.setIfInBounds_toArray, List.set_cons_zero, List.set_cons_succ]
                refine wpAnyH_ready (rs := [18]) (by kernel_rfl) (by simp) ?_
                refine (AllReadyH.cons (o := ⟨some 39, _, _, _, _, _⟩) rfl (fun K hK => ?_) AllReadyH.nil)
                rw [if_pos (by kernel_rfl)]
                refine wp_call_go Tryz.func68 (by kernel_rfl) (by kernel_rfl) (by rfl) (V5.out _) (by rfl) ?_
                rintro e w' ⟨rfl, rfl⟩
                refine ⟨_, rfl, ?_⟩
                refine hK.out _ _ (by assumption) (fun _ => ?_)
                clear hK K
                try simp only [Act.put, List.setIfInBounds_toArray, List.set_cons_zero, List.set_cons_succ]
                refine wpAnyH_take (i := 19) (oi := ⟨some 40, _, _, _, _, _⟩) (v := ?_) rfl (by kernel_rfl) (by kernel_rfl) (by kernel_rfl) (fun _ _ _ h => h) (Or.inl ⟨by kernel_rfl, ?_⟩) (by assumption) ?_
                rotate_left
                · (intro w hSw; (try dsimp only at hSw); go_simp); all_goals (with_reducible rfl)
                try simp only [Act.put, List.setIfInBounds_toArray, List.set_cons_zero, List.set_cons_succ]
                refine wpAnyH_ready (rs := [21]) (by kernel_rfl) (by simp) ?_
                refine (AllReadyH.cons (o := ⟨none, _, _, _, _, _⟩) rfl (fun K hK => ?_) AllReadyH.nil)
                rw [if_pos (by kernel_rfl)]
                refine wp_store_row 56 _ _ (by rfl) _ #[.int .i64 n1, .int .i64 n2, .int .i64 n3, .string ⟨t4.toArray⟩, .int .i64 n5] (by rfl) (by rfl) 56 partZero (Xv7.out).1 (by kernel_rfl) (by kernel_rfl) (by kernel_rfl) ?_
                have hSx : (fun W : World => W.cell? ⟨g, off + 1, none⟩ = some (.string ⟨t1.toArray⟩) ∧ W.cell? ⟨g, off + 2, none⟩ = some (.string ⟨t2.toArray⟩) ∧ W.cell? ⟨g, off + 3, none⟩ = some (.string ⟨t3.toArray⟩) ∧ W.cell? ⟨g, off + 4, none⟩ = some (.string ⟨t4.toArray⟩) ∧ W.cell? ⟨g, off + 5, none⟩ = some (.string ⟨t5.toArray⟩)) v7 := by assumption
                have hlg := (Xv7.out).2
                have hSy : (fun W : World => W.cell? ⟨g, off + 1, none⟩ = some (.string ⟨t1.toArray⟩) ∧ W.cell? ⟨g, off + 2, none⟩ = some (.string ⟨t2.toArray⟩) ∧ W.cell? ⟨g, off + 3, none⟩ = some (.string ⟨t3.toArray⟩) ∧ W.cell? ⟨g, off + 4, none⟩ = some (.string ⟨t4.toArray⟩) ∧ W.cell? ⟨g, off + 5, none⟩ = some (.string ⟨t5.toArray⟩)) (v7.setRow gB #[.int .i64 n1, .int .i64 n2, .int .i64 n3, .string ⟨t4.toArray⟩, .int .i64 n5]) := by
                  obtain ⟨c1, c2, c3, c4, c5⟩ := hSx
                  exact ⟨by rw [World.cell?_of_block (w := v7) (setRow_other _ _ _ _ (by simp only; omega))]; exact c1, by rw [World.cell?_of_block (w := v7) (setRow_other _ _ _ _ (by simp only; omega))]; exact c2, by rw [World.cell?_of_block (w := v7) (setRow_other _ _ _ _ (by simp only; omega))]; exact c3, by rw [World.cell?_of_block (w := v7) (setRow_other _ _ _ _ (by simp only; omega))]; exact c4, by rw [World.cell?_of_block (w := v7) (setRow_other _ _ _ _ (by simp only; omega))]; exact c5⟩
                refine hK.out _ _ hSy (fun _ => ?_)
                clear hK K
                try simp only [Act.put]
                refine wpAnyH_done (by kernel_rfl) ?_ _
                go_wp2_with fail
                go_meet
                case rel => exact ⟨gB, rfl, setRow_heap _ _ _ _ _ _ (Xv7.out).1, (setRow_other _ _ _ _ (by have := (Xv7.out).2.1; omega)).trans Zv7.out, below_one_row _ _ _ _ _ Bv7.out (by have := (Xv7.out).2.1; omega)⟩
            · rw [if_pos (by kernel_rfl)]
              go_wp2_with fail
              have hSx : (fun W : World => W.cell? ⟨g, off + 1, none⟩ = some (.string ⟨t1.toArray⟩) ∧ W.cell? ⟨g, off + 2, none⟩ = some (.string ⟨t2.toArray⟩) ∧ W.cell? ⟨g, off + 3, none⟩ = some (.string ⟨t3.toArray⟩) ∧ W.cell? ⟨g, off + 4, none⟩ = some (.string ⟨t4.toArray⟩) ∧ W.cell? ⟨g, off + 5, none⟩ = some (.string ⟨t5.toArray⟩)) w1 := by assumption
              have hSy : (fun W : World => W.cell? ⟨g, off + 1, none⟩ = some (.string ⟨t1.toArray⟩) ∧ W.cell? ⟨g, off + 2, none⟩ = some (.string ⟨t2.toArray⟩) ∧ W.cell? ⟨g, off + 3, none⟩ = some (.string ⟨t3.toArray⟩) ∧ W.cell? ⟨g, off + 4, none⟩ = some (.string ⟨t4.toArray⟩) ∧ W.cell? ⟨g, off + 5, none⟩ = some (.string ⟨t5.toArray⟩)) (w1.alloc (.cells partZero 56)) := by obtain ⟨c1, c2, c3, c4, c5⟩ := hSx; exact ⟨cell_past _ c1, cell_past _ c2, cell_past _ c3, cell_past _ c4, cell_past _ c5⟩
              have Bv10 := Lib.hid (Bw1.out.alloc Bw1.out.size (.cells partZero 56))
              have Zv10 : Hid ((w1.alloc (.cells partZero 56)).heap[w.heap.size]? = some (.cells partZero 56 (0, 0))) := (Below.heap_alloc _ _ _ (Array.getElem?_eq_some_iff.1 Zw1.out).1).trans Zw1.out
              have Xv10 : Hid ((w1.alloc (.cells partZero 56)).heap[w1.heap.size]? = some (.cells partZero 56 (0, 0)) ∧ w.heap.size < w1.heap.size ∧ g < w1.heap.size) := ⟨heap_alloc_new _ _, (Array.getElem?_eq_some_iff.1 Zw1.out).1, World.block_lt_of_cell? _ _ hSx.1⟩
              refine hK.out _ (w1.alloc (.cells partZero 56)) hSy (fun hSz => ?_)
              clear hSx hSy
              generalize w1.alloc (.cells partZero 56) = v10 at Bv10 Zv10 Xv10 hSz ⊢
              generalize w1.heap.size = gB at Xv10 ⊢
              clear hK K
              try simp only [Act.put, List.setIfInBounds_toArray, List.set_cons_zero, List.set_cons_succ]
              refine wpAnyH_ready (rs := [11]) (by kernel_rfl) (by simp) ?_
              refine (AllReadyH.cons (o := ⟨some 32, _, _, _, _, _⟩) rfl (fun K hK => ?_) AllReadyH.nil)
              rw [if_pos (by kernel_rfl)]
              refine wp_call_go Tryz.func68 (by kernel_rfl) (by kernel_rfl) (by rfl) (V3.out _) (by rfl) ?_
              rintro e w' ⟨rfl, rfl⟩
              refine ⟨_, rfl, ?_⟩
              refine hK.out _ _ (by assumption) (fun _ => ?_)
              clear hK K
              try simp only [Act.put, List.setIfInBounds_toArray, List.set_cons_zero, List.set_cons_succ]
              refine wpAnyH_ready (rs := [18]) (by kernel_rfl) (by simp) ?_
              refine (AllReadyH.cons (o := ⟨some 39, _, _, _, _, _⟩) rfl (fun K hK => ?_) AllReadyH.nil)
              rw [if_pos (by kernel_rfl)]
              refine wp_call_go Tryz.func68 (by kernel_rfl) (by kernel_rfl) (by rfl) (V5.out _) (by rfl) ?_
              rintro e w' ⟨rfl, rfl⟩
              refine ⟨_, rfl, ?_⟩
              refine hK.out _ _ (by assumption) (fun _ => ?_)
              clear hK K
              try simp only [Act.put, List.setIfInBounds_toArray, List.set_cons_zero, List.set_cons_succ]
              refine wpAnyH_take (i := 19) (oi := ⟨some 40, _, _, _, _, _⟩) (v := ?_) rfl (by kernel_rfl) (by kernel_rfl) (by kernel_rfl) (fun _ _ _ h => h) (Or.inl ⟨by kernel_rfl, ?_⟩) (by assumption) ?_
              rotate_left
              · (intro w hSw; (try dsimp only at hSw); go_simp); all_goals (with_reducible rfl)
              try simp only [Act.put, List.setIfInBounds_toArray, List.set_cons_zero, List.set_cons_succ]
              refine wpAnyH_ready (rs := [21]) (by kernel_rfl) (by simp) ?_
              refine (AllReadyH.cons (o := ⟨none, _, _, _, _, _⟩) rfl (fun K hK => ?_) AllReadyH.nil)
              rw [if_pos (by kernel_rfl)]
              refine wp_store_row 56 _ _ (by rfl) _ #[.int .i64 n1, .int .i64 n2, .int .i64 n3, .string ⟨t4.toArray⟩, .int .i64 n5] (by rfl) (by rfl) 56 partZero (Xv10.out).1 (by kernel_rfl) (by kernel_rfl) (by kernel_rfl) ?_
              have hSx : (fun W : World => W.cell? ⟨g, off + 1, none⟩ = some (.string ⟨t1.toArray⟩) ∧ W.cell? ⟨g, off + 2, none⟩ = some (.string ⟨t2.toArray⟩) ∧ W.cell? ⟨g, off + 3, none⟩ = some (.string ⟨t3.toArray⟩) ∧ W.cell? ⟨g, off + 4, none⟩ = some (.string ⟨t4.toArray⟩) ∧ W.cell? ⟨g, off + 5, none⟩ = some (.string ⟨t5.toArray⟩)) v10 := by assumption
              have hlg := (Xv10.out).2
              have hSy : (fun W : World => W.cell? ⟨g, off + 1, none⟩ = some (.string ⟨t1.toArray⟩) ∧ W.cell? ⟨g, off + 2, none⟩ = some (.string ⟨t2.toArray⟩) ∧ W.cell? ⟨g, off + 3, none⟩ = some (.string ⟨t3.toArray⟩) ∧ W.cell? ⟨g, off + 4, none⟩ = some (.string ⟨t4.toArray⟩) ∧ W.cell? ⟨g, off + 5, none⟩ = some (.string ⟨t5.toArray⟩)) (v10.setRow gB #[.int .i64 n1, .int .i64 n2, .int .i64 n3, .string ⟨t4.toArray⟩, .int .i64 n5]) := by
                obtain ⟨c1, c2, c3, c4, c5⟩ := hSx
                exact ⟨by rw [World.cell?_of_block (w := v10) (setRow_other _ _ _ _ (by simp only; omega))]; exact c1, by rw [World.cell?_of_block (w := v10) (setRow_other _ _ _ _ (by simp only; omega))]; exact c2, by rw [World.cell?_of_block (w := v10) (setRow_other _ _ _ _ (by simp only; omega))]; exact c3, by rw [World.cell?_of_block (w := v10) (setRow_other _ _ _ _ (by simp only; omega))]; exact c4, by rw [World.cell?_of_block (w := v10) (setRow_other _ _ _ _ (by simp only; omega))]; exact c5⟩
              refine hK.out _ _ hSy (fun _ => ?_)
              clear hK K
              try simp only [Act.put]
              refine wpAnyH_done (by kernel_rfl) ?_ _
              go_wp2_with fail
              go_meet
              case rel => exact ⟨gB, rfl, setRow_heap _ _ _ _ _ _ (Xv10.out).1, (setRow_other _ _ _ _ (by have := (Xv10.out).2.1; omega)).trans Zv10.out, below_one_row _ _ _ _ _ Bv10.out (by have := (Xv10.out).2.1; omega)⟩
          · rw [if_pos (by kernel_rfl)]
            go_wp2_with fail
            have hSx : (fun W : World => W.cell? ⟨g, off + 1, none⟩ = some (.string ⟨t1.toArray⟩) ∧ W.cell? ⟨g, off + 2, none⟩ = some (.string ⟨t2.toArray⟩) ∧ W.cell? ⟨g, off + 3, none⟩ = some (.string ⟨t3.toArray⟩) ∧ W.cell? ⟨g, off + 4, none⟩ = some (.string ⟨t4.toArray⟩) ∧ W.cell? ⟨g, off + 5, none⟩ = some (.string ⟨t5.toArray⟩)) w1 := by assumption
            have hSy : (fun W : World => W.cell? ⟨g, off + 1, none⟩ = some (.string ⟨t1.toArray⟩) ∧ W.cell? ⟨g, off + 2, none⟩ = some (.string ⟨t2.toArray⟩) ∧ W.cell? ⟨g, off + 3, none⟩ = some (.string ⟨t3.toArray⟩) ∧ W.cell? ⟨g, off + 4, none⟩ = some (.string ⟨t4.toArray⟩) ∧ W.cell? ⟨g, off + 5, none⟩ = some (.string ⟨t5.toArray⟩)) (w1.alloc (.cells partZero 56)) := by obtain ⟨c1, c2, c3, c4, c5⟩ := hSx; exact ⟨cell_past _ c1, cell_past _ c2, cell_past _ c3, cell_past _ c4, cell_past _ c5⟩
            have Bv14 := Lib.hid (Bw1.out.alloc Bw1.out.size (.cells partZero 56))
            have Zv14 : Hid ((w1.alloc (.cells partZero 56)).heap[w.heap.size]? = some (.cells partZero 56 (0, 0))) := (Below.heap_alloc _ _ _ (Array.getElem?_eq_some_iff.1 Zw1.out).1).trans Zw1.out
            have Xv14 : Hid ((w1.alloc (.cells partZero 56)).heap[w1.heap.size]? = some (.cells partZero 56 (0, 0)) ∧ w.heap.size < w1.heap.size ∧ g < w1.heap.size) := ⟨heap_alloc_new _ _, (Array.getElem?_eq_some_iff.1 Zw1.out).1, World.block_lt_of_cell? _ _ hSx.1⟩
            refine hK.out _ (w1.alloc (.cells partZero 56)) hSy (fun hSz => ?_)
            clear hSx hSy
            generalize w1.alloc (.cells partZero 56) = v14 at Bv14 Zv14 Xv14 hSz ⊢
            generalize w1.heap.size = gB at Xv14 ⊢
            clear hK K
            try simp only [Act.put, List.setIfInBounds_toArray, List.set_cons_zero, List.set_cons_succ]
            refine wpAnyH_ready (rs := [7]) (by kernel_rfl) (by simp) ?_
            refine (AllReadyH.cons (o := ⟨some 28, _, _, _, _, _⟩) rfl (fun K hK => ?_) AllReadyH.nil)
            rw [if_pos (by kernel_rfl)]
            refine wp_call_go Tryz.func68 (by kernel_rfl) (by kernel_rfl) (by rfl) (V2.out _) (by rfl) ?_
            rintro e w' ⟨rfl, rfl⟩
            refine ⟨_, rfl, ?_⟩
            refine hK.out _ _ (by assumption) (fun _ => ?_)
            clear hK K
            try simp only [Act.put, List.setIfInBounds_toArray, List.set_cons_zero, List.set_cons_succ]
            refine wpAnyH_ready (rs := [11]) (by kernel_rfl) (by simp) ?_
            refine (AllReadyH.cons (o := ⟨some 32, _, _, _, _, _⟩) rfl (fun K hK => ?_) AllReadyH.nil)
            rw [if_pos (by kernel_rfl)]
            refine wp_call_go Tryz.func68 (by kernel_rfl) (by kernel_rfl) (by rfl) (V3.out _) (by rfl) ?_
            rintro e w' ⟨rfl, rfl⟩
            refine ⟨_, rfl, ?_⟩
            refine hK.out _ _ (by assumption) (fun _ => ?_)
            clear hK K
            try simp only [Act.put, List.setIfInBounds_toArray, List.set_cons_zero, List.set_cons_succ]
            refine wpAnyH_ready (rs := [18]) (by kernel_rfl) (by simp) ?_
            refine (AllReadyH.cons (o := ⟨some 39, _, _, _, _, _⟩) rfl (fun K hK => ?_) AllReadyH.nil)
            rw [if_pos (by kernel_rfl)]
            refine wp_call_go Tryz.func68 (by kernel_rfl) (by kernel_rfl) (by rfl) (V5.out _) (by rfl) ?_
            rintro e w' ⟨rfl, rfl⟩
            refine ⟨_, rfl, ?_⟩
            refine hK.out _ _ (by assumption) (fun _ => ?_)
            clear hK K
            try simp only [Act.put, List.setIfInBounds_toArray, List.set_cons_zero, List.set_cons_succ]
            refine wpAnyH_take (i := 19) (oi := ⟨some 40, _, _, _, _, _⟩) (v := ?_) rfl (by kernel_rfl) (by kernel_rfl) (by kernel_rfl) (fun _ _ _ h => h) (Or.inl ⟨by kernel_rfl, ?_⟩) (by assumption) ?_
            rotate_left
            · (intro w hSw; (try dsimp only at hSw); go_simp); all_goals (with_reducible rfl)
            try simp only [Act.put, List.setIfInBounds_toArray, List.set_cons_zero, List.set_cons_succ]
            refine wpAnyH_ready (rs := [21]) (by kernel_rfl) (by simp) ?_
            refine (AllReadyH.cons (o := ⟨none, _, _, _, _, _⟩) rfl (fun K hK => ?_) AllReadyH.nil)
            rw [if_pos (by kernel_rfl)]
            refine wp_store_row 56 _ _ (by rfl) _ #[.int .i64 n1, .int .i64 n2, .int .i64 n3, .string ⟨t4.toArray⟩, .int .i64 n5] (by rfl) (by rfl) 56 partZero (Xv14.out).1 (by kernel_rfl) (by kernel_rfl) (by kernel_rfl) ?_
            have hSx : (fun W : World => W.cell? ⟨g, off + 1, none⟩ = some (.string ⟨t1.toArray⟩) ∧ W.cell? ⟨g, off + 2, none⟩ = some (.string ⟨t2.toArray⟩) ∧ W.cell? ⟨g, off + 3, none⟩ = some (.string ⟨t3.toArray⟩) ∧ W.cell? ⟨g, off + 4, none⟩ = some (.string ⟨t4.toArray⟩) ∧ W.cell? ⟨g, off + 5, none⟩ = some (.string ⟨t5.toArray⟩)) v14 := by assumption
            have hlg := (Xv14.out).2
            have hSy : (fun W : World => W.cell? ⟨g, off + 1, none⟩ = some (.string ⟨t1.toArray⟩) ∧ W.cell? ⟨g, off + 2, none⟩ = some (.string ⟨t2.toArray⟩) ∧ W.cell? ⟨g, off + 3, none⟩ = some (.string ⟨t3.toArray⟩) ∧ W.cell? ⟨g, off + 4, none⟩ = some (.string ⟨t4.toArray⟩) ∧ W.cell? ⟨g, off + 5, none⟩ = some (.string ⟨t5.toArray⟩)) (v14.setRow gB #[.int .i64 n1, .int .i64 n2, .int .i64 n3, .string ⟨t4.toArray⟩, .int .i64 n5]) := by
              obtain ⟨c1, c2, c3, c4, c5⟩ := hSx
              exact ⟨by rw [World.cell?_of_block (w := v14) (setRow_other _ _ _ _ (by simp only; omega))]; exact c1, by rw [World.cell?_of_block (w := v14) (setRow_other _ _ _ _ (by simp only; omega))]; exact c2, by rw [World.cell?_of_block (w := v14) (setRow_other _ _ _ _ (by simp only; omega))]; exact c3, by rw [World.cell?_of_block (w := v14) (setRow_other _ _ _ _ (by simp only; omega))]; exact c4, by rw [World.cell?_of_block (w := v14) (setRow_other _ _ _ _ (by simp only; omega))]; exact c5⟩
            refine hK.out _ _ hSy (fun _ => ?_)
            clear hK K
            try simp only [Act.put]
            refine wpAnyH_done (by kernel_rfl) ?_ _
            go_wp2_with fail
            go_meet
            case rel => exact ⟨gB, rfl, setRow_heap _ _ _ _ _ _ (Xv14.out).1, (setRow_other _ _ _ _ (by have := (Xv14.out).2.1; omega)).trans Zv14.out, below_one_row _ _ _ _ _ Bv14.out (by have := (Xv14.out).2.1; omega)⟩
        · rw [if_pos (by kernel_rfl)]
          go_wp2_with fail
          have hSx : (fun W : World => W.cell? ⟨g, off + 1, none⟩ = some (.string ⟨t1.toArray⟩) ∧ W.cell? ⟨g, off + 2, none⟩ = some (.string ⟨t2.toArray⟩) ∧ W.cell? ⟨g, off + 3, none⟩ = some (.string ⟨t3.toArray⟩) ∧ W.cell? ⟨g, off + 4, none⟩ = some (.string ⟨t4.toArray⟩) ∧ W.cell? ⟨g, off + 5, none⟩ = some (.string ⟨t5.toArray⟩)) w1 := by assumption
          have hSy : (fun W : World => W.cell? ⟨g, off + 1, none⟩ = some (.string ⟨t1.toArray⟩) ∧ W.cell? ⟨g, off + 2, none⟩ = some (.string ⟨t2.toArray⟩) ∧ W.cell? ⟨g, off + 3, none⟩ = some (.string ⟨t3.toArray⟩) ∧ W.cell? ⟨g, off + 4, none⟩ = some (.string ⟨t4.toArray⟩) ∧ W.cell? ⟨g, off + 5, none⟩ = some (.string ⟨t5.toArray⟩)) (w1.alloc (.cells partZero 56)) := by obtain ⟨c1, c2, c3, c4, c5⟩ := hSx; exact ⟨cell_past _ c1, cell_past _ c2, cell_past _ c3, cell_past _ c4, cell_past _ c5⟩
          have Bv19 := Lib.hid (Bw1.out.alloc Bw1.out.size (.cells partZero 56))
          have Zv19 : Hid ((w1.alloc (.cells partZero 56)).heap[w.heap.size]? = some (.cells partZero 56 (0, 0))) := (Below.heap_alloc _ _ _ (Array.getElem?_eq_some_iff.1 Zw1.out).1).trans Zw1.out
          have Xv19 : Hid ((w1.alloc (.cells partZero 56)).heap[w1.heap.size]? = some (.cells partZero 56 (0, 0)) ∧ w.heap.size < w1.heap.size ∧ g < w1.heap.size) := ⟨heap_alloc_new _ _, (Array.getElem?_eq_some_iff.1 Zw1.out).1, World.block_lt_of_cell? _ _ hSx.1⟩
          refine hK.out _ (w1.alloc (.cells partZero 56)) hSy (fun hSz => ?_)
          clear hSx hSy
          generalize w1.alloc (.cells partZero 56) = v19 at Bv19 Zv19 Xv19 hSz ⊢
          generalize w1.heap.size = gB at Xv19 ⊢
          clear hK K
          try simp only [Act.put, List.setIfInBounds_toArray, List.set_cons_zero, List.set_cons_succ]
          refine wpAnyH_ready (rs := [3]) (by kernel_rfl) (by simp) ?_
          refine (AllReadyH.cons (o := ⟨some 24, _, _, _, _, _⟩) rfl (fun K hK => ?_) AllReadyH.nil)
          rw [if_pos (by kernel_rfl)]
          refine wp_call_go Tryz.func68 (by kernel_rfl) (by kernel_rfl) (by rfl) (V1.out _) (by rfl) ?_
          rintro e w' ⟨rfl, rfl⟩
          refine ⟨_, rfl, ?_⟩
          refine hK.out _ _ (by assumption) (fun _ => ?_)
          clear hK K
          try simp only [Act.put, List.setIfInBounds_toArray, List.set_cons_zero, List.set_cons_succ]
          refine wpAnyH_ready (rs := [7]) (by kernel_rfl) (by simp) ?_
          refine (AllReadyH.cons (o := ⟨some 28, _, _, _, _, _⟩) rfl (fun K hK => ?_) AllReadyH.nil)
          rw [if_pos (by kernel_rfl)]
          refine wp_call_go Tryz.func68 (by kernel_rfl) (by kernel_rfl) (by rfl) (V2.out _) (by rfl) ?_
          rintro e w' ⟨rfl, rfl⟩
          refine ⟨_, rfl, ?_⟩
          refine hK.out _ _ (by assumption) (fun _ => ?_)
          clear hK K
          try simp only [Act.put, List.setIfInBounds_toArray, List.set_cons_zero, List.set_cons_succ]
          refine wpAnyH_ready (rs := [11]) (by kernel_rfl) (by simp) ?_
          refine (AllReadyH.cons (o := ⟨some 32, _, _, _, _, _⟩) rfl (fun K hK => ?_) AllReadyH.nil)
          rw [if_pos (by kernel_rfl)]
          refine wp_call_go Tryz.func68 (by kernel_rfl) (by kernel_rfl) (by rfl) (V3.out _) (by rfl) ?_
          rintro e w' ⟨rfl, rfl⟩
          refine ⟨_, rfl, ?_⟩
          refine hK.out _ _ (by assumption) (fun _ => ?_)
          clear hK K
          try simp only [Act.put, List.setIfInBounds_toArray, List.set_cons_zero, List.set_cons_succ]
          refine wpAnyH_ready (rs := [18]) (by kernel_rfl) (by simp) ?_
          refine (AllReadyH.cons (o := ⟨some 39, _, _, _, _, _⟩) rfl (fun K hK => ?_) AllReadyH.nil)
          rw [if_pos (by kernel_rfl)]
          refine wp_call_go Tryz.func68 (by kernel_rfl) (by kernel_rfl) (by rfl) (V5.out _) (by rfl) ?_
          rintro e w' ⟨rfl, rfl⟩
          refine ⟨_, rfl, ?_⟩
          refine hK.out _ _ (by assumption) (fun _ => ?_)
          clear hK K
          try simp only [Act.put, List.setIfInBounds_toArray, List.set_cons_zero, List.set_cons_succ]
          refine wpAnyH_take (i := 19) (oi := ⟨some 40, _, _, _, _, _⟩) (v := ?_) rfl (by kernel_rfl) (by kernel_rfl) (by kernel_rfl) (fun _ _ _ h => h) (Or.inl ⟨by kernel_rfl, ?_⟩) (by assumption) ?_
          rotate_left
          · (intro w hSw; (try dsimp only at hSw); go_simp); all_goals (with_reducible rfl)
          try simp only [Act.put, List.setIfInBounds_toArray, List.set_cons_zero, List.set_cons_succ]
          refine wpAnyH_ready (rs := [21]) (by kernel_rfl) (by simp) ?_
          refine (AllReadyH.cons (o := ⟨none, _, _, _, _, _⟩) rfl (fun K hK => ?_) AllReadyH.nil)
          rw [if_pos (by kernel_rfl)]
          refine wp_store_row 56 _ _ (by rfl) _ #[.int .i64 n1, .int .i64 n2, .int .i64 n3, .string ⟨t4.toArray⟩, .int .i64 n5] (by rfl) (by rfl) 56 partZero (Xv19.out).1 (by kernel_rfl) (by kernel_rfl) (by kernel_rfl) ?_
          have hSx : (fun W : World => W.cell? ⟨g, off + 1, none⟩ = some (.string ⟨t1.toArray⟩) ∧ W.cell? ⟨g, off + 2, none⟩ = some (.string ⟨t2.toArray⟩) ∧ W.cell? ⟨g, off + 3, none⟩ = some (.string ⟨t3.toArray⟩) ∧ W.cell? ⟨g, off + 4, none⟩ = some (.string ⟨t4.toArray⟩) ∧ W.cell? ⟨g, off + 5, none⟩ = some (.string ⟨t5.toArray⟩)) v19 := by assumption
          have hlg := (Xv19.out).2
          have hSy : (fun W : World => W.cell? ⟨g, off + 1, none⟩ = some (.string ⟨t1.toArray⟩) ∧ W.cell? ⟨g, off + 2, none⟩ = some (.string ⟨t2.toArray⟩) ∧ W.cell? ⟨g, off + 3, none⟩ = some (.string ⟨t3.toArray⟩) ∧ W.cell? ⟨g, off + 4, none⟩ = some (.string ⟨t4.toArray⟩) ∧ W.cell? ⟨g, off + 5, none⟩ = some (.string ⟨t5.toArray⟩)) (v19.setRow gB #[.int .i64 n1, .int .i64 n2, .int .i64 n3, .string ⟨t4.toArray⟩, .int .i64 n5]) := by
            obtain ⟨c1, c2, c3, c4, c5⟩ := hSx
            exact ⟨by rw [World.cell?_of_block (w := v19) (setRow_other _ _ _ _ (by simp only; omega))]; exact c1, by rw [World.cell?_of_block (w := v19) (setRow_other _ _ _ _ (by simp only; omega))]; exact c2, by rw [World.cell?_of_block (w := v19) (setRow_other _ _ _ _ (by simp only; omega))]; exact c3, by rw [World.cell?_of_block (w := v19) (setRow_other _ _ _ _ (by simp only; omega))]; exact c4, by rw [World.cell?_of_block (w := v19) (setRow_other _ _ _ _ (by simp only; omega))]; exact c5⟩
          refine hK.out _ _ hSy (fun _ => ?_)
          clear hK K
          try simp only [Act.put]
          refine wpAnyH_done (by kernel_rfl) ?_ _
          go_wp2_with fail
          go_meet
          case rel => exact ⟨gB, rfl, setRow_heap _ _ _ _ _ _ (Xv19.out).1, (setRow_other _ _ _ _ (by have := (Xv19.out).2.1; omega)).trans Zv19.out, below_one_row _ _ _ _ _ Bv19.out (by have := (Xv19.out).2.1; omega)⟩
      case rest =>
        obtain ⟨gB, rfl, h1, h2, h3⟩ := hcut
        obtain ⟨wx, rfl⟩ : ∃ wx : World, wx = wc := ⟨_, rfl⟩
        have H1 := Lib.hid h1
        have H2 := Lib.hid h2
        have H3 := Lib.hid h3
        clear h1 h2 h3 V1 V2 V3 V5
        go_wp2_with (refine wpList_load_row (by rfl) 56 _ (by rfl) gB (by rfl) 56 _ (0, 0) _ (by exact H1.out) Tryz.underlying56 rfl (by kernel_rfl) ?_)
        refine (HTP.out _).mono ?_
        rintro e w2 ⟨rfl, hb2⟩
        have B2 := Lib.hid (H3.out.trans (hb2.mono H3.out.size))
        have X2 := Lib.hid ((hb2.block _ (Array.getElem?_eq_some_iff.1 H1.out).1).trans H1.out)
        have Z2 := Lib.hid ((hb2.block _ (Array.getElem?_eq_some_iff.1 H2.out).1).trans H2.out)
        clear hb2 H1 H2 H3 HTP
        cases rb with
        | false =>
          have HN : Hid (res = none) := HX.out (fun h => by cases h.1)
          clear HX HY
          go_wp2_with (refine wpList_store_row (by rfl) 56 _ _ (by rfl) w.heap.size partZero (by rfl) (by rfl) 56 _ (by exact Z2.out) (by kernel_rfl) (by kernel_rfl) (by kernel_rfl) ?_)
          refine bodyPost_ret (results_cell_tmp rfl _ _ w.heap.size 56 _ _ rfl (setRow_heap _ _ _ _ _ _ Z2.out) Tryz.underlying56 rfl (by kernel_rfl)) rfl ?_
          rw [HN.out]
          exact ⟨rfl, below_one_row _ _ _ _ _ B2.out (Nat.le_refl _)⟩
        | true =>
          cases hq : (X == s) with
          | false =>
            have HN : Hid (res = none) := HX.out (fun h => by rw [beq_eq_false_iff_ne] at hq; exact hq h.2)
            clear HX HY
            go_wp2_with (refine wpList_store_row (by rfl) 56 _ _ (by rfl) w.heap.size partZero (by rfl) (by rfl) 56 _ (by exact Z2.out) (by kernel_rfl) (by kernel_rfl) (by kernel_rfl) ?_)
            refine bodyPost_ret (results_cell_tmp rfl _ _ w.heap.size 56 _ _ rfl (setRow_heap _ _ _ _ _ _ Z2.out) Tryz.underlying56 rfl (by kernel_rfl)) rfl ?_
            rw [HN.out]
            exact ⟨rfl, below_one_row _ _ _ _ _ B2.out (Nat.le_refl _)⟩
          | true =>
            have HN : Hid (res = some ⟨n1, n2, n3, t4, n5⟩) := HY.out rfl (by simpa using hq)
            clear HX HY
            go_wp2_with (first
              | (refine wpList_load_row (by rfl) 56 _ (by rfl) gB (by rfl) 56 _ (0, 0) _ (by exact X2.out) Tryz.underlying56 rfl (by kernel_rfl) ?_)
              | (refine wpList_store_row (by rfl) 56 _ _ (by rfl) w.heap.size _ (by rfl) (by rfl) 56 _ (by exact Z2.out) (by kernel_rfl) (by kernel_rfl) (by kernel_rfl) ?_))
            refine bodyPost_ret (results_cell_tmp rfl _ _ w.heap.size 56 _ _ rfl (setRow_heap _ _ _ _ _ _ Z2.out) Tryz.underlying56 rfl (by kernel_rfl)) rfl ?_
            rw [HN.out]
            exact ⟨rfl, below_one_row _ _ _ _ _ B2.out (Nat.le_refl _)⟩
    · have HN : Hid (res = none) := hres.out.symm.trans (rPart_no ho (fun h => h6 h.1))
      have h6z : ((l.length : Int) != 6) = true := by rw [bne_iff_ne]; omega
      have h6y : ((l.length : Int) == 6) = false := by rw [beq_eq_false_iff_ne]; omega
      clear hres ho
      go_enter Tryz.func33, Tryz.ntmps33
      go_wp2_with fail
      refine (HF.out _).mono ?_
      rintro e w1 ⟨v, rfl, hsl, hb1⟩
      have B1 := Lib.hid (BZ.out.trans (hb1.mono BZ.out.size))
      have Z1 := Lib.hid ((hb1.block _ (Array.getElem?_eq_some_iff.1 HZ.out).1).trans HZ.out)
      clear hb1
      obtain ⟨a, c, rfl, _⟩ := strs_at hsl
      go_wp2_with (refine wpList_store_row (by rfl) 56 _ _ (by rfl) w.heap.size partZero (by rfl) (by rfl) 56 _ (by exact Z1.out) (by kernel_rfl) (by kernel_rfl) (by kernel_rfl) ?_)
      refine bodyPost_ret (results_cell_tmp rfl _ _ w.heap.size 56 _ _ rfl (setRow_heap _ _ _ _ _ _ Z1.out) Tryz.underlying56 rfl (by kernel_rfl)) rfl ?_
      rw [HN.out]
      exact ⟨rfl, below_one_row _ _ _ _ _ B1.out (Nat.le_refl _)⟩

end Go.Proofs.YtajmkkjlhmeolaaGreatDoor
