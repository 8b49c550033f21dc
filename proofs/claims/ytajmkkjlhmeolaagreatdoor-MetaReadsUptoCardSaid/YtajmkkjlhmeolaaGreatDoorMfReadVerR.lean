/-
  storehouseref19.ReadVersion: the walk. (Printed by wip/gen/mfreadl.py.)
-/
import Derived.Test.YtajmkkjlhmeolaaGreatDoorMfRows
namespace Go.Proofs.YtajmkkjlhmeolaaGreatDoor
open Go.RowKit Go.Lib Go.PlainAid

/-- the numbers of a list's texts, from the tenth on, below a place -/
def numsOf (l : List (List UInt8)) (k : Nat) : List Int := ((l.take k).drop 9).map valueL
theorem numsOf_start (l : List (List UInt8)) : numsOf l 9 = [] := by
  unfold numsOf
  rw [List.drop_eq_nil_of_le (by rw [List.length_take]; omega)]
  rfl
theorem numsOf_end (l : List (List UInt8)) : (l.drop 9).map valueL = numsOf l l.length := by
  unfold numsOf
  rw [List.take_length]
theorem numsOf_len {l : List (List UInt8)} {k : Nat} (h : k ≤ l.length) : (numsOf l k).length = k - 9 := by
  unfold numsOf
  simp only [List.length_map, List.length_drop, List.length_take]
  omega
theorem numsOf_snoc {l : List (List UInt8)} {k : Nat} {x : List UInt8} (hx : l[k]? = some x) (h : 9 ≤ k) : numsOf l (k + 1) = numsOf l k ++ [valueL x] := by
  obtain ⟨hlt, rfl⟩ := List.getElem?_eq_some_iff.1 hx
  unfold numsOf
  rw [← List.take_append_getElem hlt, List.drop_append_of_le_length (by rw [List.length_take]; omega), List.map_append]
  rfl
/-- what the reference's ReadVersion leaves -/
def RVerOut (o : Option VerV) (w : World) (e : Ending) (w' : World) : Prop :=
  ∃ v, e = .returned (.tuple #[.agg ((o.getD verZ).cells v), .bool o.isSome]) ∧ SlAt w' 1 v (intRows (o.getD verZ).blobs) ∧ Below w.heap.size w w'

set_option maxHeartbeats 8000000 in
set_option maxRecDepth 100000 in
theorem rReadVer_any (s : List UInt8) (hl : s.length ≤ 4000000000000) (w : World) : Calls Tryz.prog 31 #[.string ⟨s.toArray⟩] w (RVerOut (readVerL s) w) := by
  have HF := Lib.hid (fun W => rFields_any s hl W)
  have HT := Lib.hid (fun p v W h => rVerText_any p v W h)
  obtain ⟨res, hres⟩ : ∃ r, Hid (readVerL s = r) := ⟨_, rfl⟩
  rw [hres.out]
  obtain ⟨o, ho⟩ : ∃ o, fieldsL s = o := ⟨_, rfl⟩
  rw [ho] at HF
  have HZ : Hid ((w.alloc (.cells verZeroC 47)).heap[w.heap.size]? = some (.cells verZeroC 47 (0, 0))) := heap_alloc_new _ _
  have BZ : Hid (Below w.heap.size w (w.alloc (.cells verZeroC 47))) := below_alloc (Below.refl _ _) (Nat.le_refl _) _
  cases o with
  | none =>
    have HN : Hid (res = none) := hres.out.symm.trans (rVer_none ho)
    clear hres ho
    go_enter Tryz.func31, Tryz.ntmps31
    go_wp2_with fail
    refine (HF.out _).mono ?_
    rintro e w1 ⟨v, rfl, hsl, hb1⟩
    have B1 := Lib.hid (BZ.out.trans (hb1.mono BZ.out.size))
    have Z1 := Lib.hid ((hb1.block _ (Array.getElem?_eq_some_iff.1 HZ.out).1).trans HZ.out)
    have HW1 := Lib.hid (Array.getElem?_eq_some_iff.1 Z1.out).1
    clear hb1
    go_wp2_with (refine wpList_store_row (by rfl) 47 _ _ (by rfl) w.heap.size verZeroC (by rfl) (by rfl) 47 _ (by exact Z1.out) (by kernel_rfl) (by kernel_rfl) (by kernel_rfl) ?_)
    refine bodyPost_ret (results_cell_tmp rfl _ _ w.heap.size 47 _ _ rfl (setRow_heap _ _ _ _ _ _ Z1.out) Tryz.underlying47 rfl (by kernel_rfl)) rfl ?_
    rw [HN.out]
    exact ⟨.slice none 0 0, rfl, slAt_nil _ _, below_one_row _ _ _ _ _ B1.out (Nat.le_refl _)⟩
  | some l =>
    by_cases h6 : 9 ≤ l.length
    · obtain ⟨t1, ht1⟩ : ∃ t, l[1]? = some t := ⟨_, List.getElem?_eq_getElem (by omega)⟩
      obtain ⟨t2, ht2⟩ : ∃ t, l[2]? = some t := ⟨_, List.getElem?_eq_getElem (by omega)⟩
      obtain ⟨t3, ht3⟩ : ∃ t, l[3]? = some t := ⟨_, List.getElem?_eq_getElem (by omega)⟩
      obtain ⟨t4, ht4⟩ : ∃ t, l[4]? = some t := ⟨_, List.getElem?_eq_getElem (by omega)⟩
      obtain ⟨t5, ht5⟩ : ∃ t, l[5]? = some t := ⟨_, List.getElem?_eq_getElem (by omega)⟩
      obtain ⟨t6, ht6⟩ : ∃ t, l[6]? = some t := ⟨_, List.getElem?_eq_getElem (by omega)⟩
      obtain ⟨t7, ht7⟩ : ∃ t, l[7]? = some t := ⟨_, List.getElem?_eq_getElem (by omega)⟩
      have hm : ∀ t, ∀ i : Nat, l[i]? = some t → t.length ≤ 4000000000000 := fun t i h => Nat.le_trans (fieldsL_mem ho t (List.mem_of_getElem? h)) hl
      have hcnt : l.length ≤ 4000000000000 := Nat.le_trans (fieldsL_count ho) hl
      have V1 := Lib.hid (fun W => rValue_any t1 (by have := hm t1 1 ht1; omega) W)
      have V6 := Lib.hid (fun W => rValue_any t6 (by have := hm t6 6 ht6; omega) W)
      have V7 := Lib.hid (fun W => rValue_any t7 (by have := hm t7 7 ht7; omega) W)
      have VR : Hid (∀ (i : Nat) (x : List UInt8), l[i]? = some x → ∀ W, Calls Tryz.prog 68 #[.string ⟨x.toArray⟩] W fun e w' => e = .returned (.int .i64 (valueL x)) ∧ W = w') := fun i x hx W => rValue_any x (by have := hm x i hx; omega) W
      obtain ⟨n1, hn1⟩ : ∃ n, valueL t1 = n := ⟨_, rfl⟩
      obtain ⟨n6, hn6⟩ : ∃ n, valueL t6 = n := ⟨_, rfl⟩
      obtain ⟨n7, hn7⟩ : ∃ n, valueL t7 = n := ⟨_, rfl⟩
      rw [hn1] at V1
      rw [hn6] at V6
      rw [hn7] at V7
      obtain ⟨q2, hq2⟩ : ∃ q, (t2 == [49]) = q := ⟨_, rfl⟩
      obtain ⟨q3, hq3⟩ : ∃ q, (t3 == [49]) = q := ⟨_, rfl⟩
      have hc : rVerC l = ⟨n1, q2, q3, t4, t5, n6, n7, numsOf l l.length⟩ := by
        unfold rVerC
        simp only [List.getD_eq_getElem?_getD, ht1, ht2, ht3, ht4, ht5, ht6, ht7, Option.getD_some, hn1, hn6, hn7, hq2, hq3]
        rw [numsOf_end]
      have hY : verRB ⟨n1, q2, q3, t4, t5, n6, n7, numsOf l l.length⟩ = true → verL ⟨n1, q2, q3, t4, t5, n6, n7, numsOf l l.length⟩ = s → res = some ⟨n1, q2, q3, t4, t5, n6, n7, numsOf l l.length⟩ := fun h1 h2 => by
        rw [← hc] at h1 h2 ⊢
        exact hres.out.symm.trans (rVer_yes ho h6 ((verRB_iff _).1 h1) h2)
      have hX : ¬ (verRB ⟨n1, q2, q3, t4, t5, n6, n7, numsOf l l.length⟩ = true ∧ verL ⟨n1, q2, q3, t4, t5, n6, n7, numsOf l l.length⟩ = s) → res = none := fun h => by
        rw [← hc] at h
        exact hres.out.symm.trans (rVer_no ho (fun h' => h ⟨(verRB_iff _).2 h'.2.1, h'.2.2⟩))
      have HY := Lib.hid hY
      have HX := Lib.hid hX
      clear hY hX hc hm ho hres hn1 hn6 hn7
      have HTP := Lib.hid (HT.out ⟨n1, q2, q3, t4, t5, n6, n7, numsOf l l.length⟩)
      obtain ⟨X, hX⟩ : ∃ X, verL ⟨n1, q2, q3, t4, t5, n6, n7, numsOf l l.length⟩ = X := ⟨_, rfl⟩
      obtain ⟨rb, hrb⟩ : ∃ x, verRB ⟨n1, q2, q3, t4, t5, n6, n7, numsOf l l.length⟩ = x := ⟨_, rfl⟩
      rw [hX, hrb] at HTP HY HX
      clear hX hrb HT
      go_enter Tryz.func31, Tryz.ntmps31
      go_wp2_with fail
      refine (HF.out _).mono ?_
      rintro e w1 ⟨v, rfl, hsl, hb1⟩
      have B1 := Lib.hid (BZ.out.trans (hb1.mono BZ.out.size))
      have Z1 := Lib.hid ((hb1.block _ (Array.getElem?_eq_some_iff.1 HZ.out).1).trans HZ.out)
      have HW1 := Lib.hid (Array.getElem?_eq_some_iff.1 Z1.out).1
      clear hb1
      obtain ⟨g, off, c, rfl, hat⟩ := strs_in (l := l) hsl (by omega)
      have HAT : Hid (∀ i t, l[i]? = some t → w1.cell? ⟨g, off + i, none⟩ = some (.string ⟨t.toArray⟩)) := hat
      have A1 := Lib.hid (hat 1 t1 ht1)
      have A2 := Lib.hid (hat 2 t2 ht2)
      have A3 := Lib.hid (hat 3 t3 ht3)
      have A4 := Lib.hid (hat 4 t4 ht4)
      have A5 := Lib.hid (hat 5 t5 ht5)
      have A6 := Lib.hid (hat 6 t6 ht6)
      have A7 := Lib.hid (hat 7 t7 ht7)
      have h9z : ¬ ((l.length : Int) < 9) := by omega
      have hlz : ∀ i : Nat, i < l.length → (i : Int) < (l.length : Int) := fun i h => by omega
      have hi1 : (1 : Int) < (l.length : Int) := by omega
      have hi2 : (2 : Int) < (l.length : Int) := by omega
      have hi3 : (3 : Int) < (l.length : Int) := by omega
      have hi4 : (4 : Int) < (l.length : Int) := by omega
      have hi5 : (5 : Int) < (l.length : Int) := by omega
      have hi6 : (6 : Int) < (l.length : Int) := by omega
      have hi7 : (7 : Int) < (l.length : Int) := by omega
      have hS1 : Below w1.heap.size w1 w1.drew := (Below.refl _ _).drew
      clear hat hsl HF HZ BZ
      go_upto_region 4 with (fail)
      go_cut [6] (fun s6 wx => ∃ gB : Nat, s6 = .pointer (some ⟨gB, 0, none⟩) ∧ RowsRf w1 wx gB #[.int .i64 n1, .bool q2, .bool q3, .string ⟨t4.toArray⟩, .string ⟨t5.toArray⟩, .int .i64 n6, .int .i64 n7, .slice none 0 0] 47 3 1 (.slice none 0 0) [])
      case first =>
        refine wp_region_held_drew (S := (fun W : World => Below w1.heap.size w1 W)) (by kernel_rfl) hS1 (fun hS0 => ?_)
        clear hS1
        generalize w1.drew = w0 at hS0 ⊢
        refine wpAnyH_take (i := 0) (oi := ⟨some 22, _, _, _, _, _⟩) (v := ?_) rfl (by kernel_rfl) (by kernel_rfl) (by kernel_rfl) (fun _ _ _ h => h) (Or.inl ⟨by kernel_rfl, ?_⟩) (by assumption) ?_
        rotate_left
        · (intro w hSw; (try dsimp only at hSw); go_simp); all_goals (with_reducible rfl)
        try simp only [Act.put, List.setIfInBounds_toArray, List.set_cons_zero, List.set_cons_succ]
        refine wpAnyH_take (i := 1) (oi := ⟨some 23, _, _, _, _, _⟩) (v := ?_) rfl (by kernel_rfl) (by kernel_rfl) (by kernel_rfl) (fun _ _ _ h => h) (Or.inl ⟨by kernel_rfl, ?_⟩) (by assumption) ?_
        rotate_left
        · (intro w hSw; (try dsimp only at hSw); go_simp); all_goals (with_reducible rfl)
        try simp only [Act.put, List.setIfInBounds_toArray, List.set_cons_zero, List.set_cons_succ]
        refine wpAnyH_take (i := 2) (oi := ⟨some 24, _, _, _, _, _⟩) (v := ?_) rfl (by kernel_rfl) (by kernel_rfl) (by kernel_rfl) (fun _ _ _ h => h) (Or.inl ⟨by kernel_rfl, ?_⟩) (by assumption) ?_
        rotate_left
        · (intro w hSw; (try dsimp only at hSw); (have c1 := cell_later' hSw A1.out; have c2 := cell_later' hSw A2.out; have c3 := cell_later' hSw A3.out; have c4 := cell_later' hSw A4.out; have c5 := cell_later' hSw A5.out; have c6 := cell_later' hSw A6.out; have c7 := cell_later' hSw A7.out); go_simp); all_goals (with_reducible rfl)
        try simp only [Act.put, List.setIfInBounds_toArray, List.set_cons_zero, List.set_cons_succ]
        refine wpAnyH_take (i := 4) (oi := ⟨some 26, _, _, _, _, _⟩) (v := ?_) rfl (by kernel_rfl) (by kernel_rfl) (by kernel_rfl) (fun _ _ _ h => h) (Or.inl ⟨by kernel_rfl, ?_⟩) (by assumption) ?_
        rotate_left
        · (intro w hSw; (try dsimp only at hSw); go_simp); all_goals (with_reducible rfl)
        try simp only [Act.put, List.setIfInBounds_toArray, List.set_cons_zero, List.set_cons_succ]
        refine wpAnyH_take (i := 5) (oi := ⟨some 27, _, _, _, _, _⟩) (v := ?_) rfl (by kernel_rfl) (by kernel_rfl) (by kernel_rfl) (fun _ _ _ h => h) (Or.inl ⟨by kernel_rfl, ?_⟩) (by assumption) ?_
        rotate_left
        · (intro w hSw; (try dsimp only at hSw); go_simp); all_goals (with_reducible rfl)
        try simp only [Act.put, List.setIfInBounds_toArray, List.set_cons_zero, List.set_cons_succ]
        refine wpAnyH_take (i := 6) (oi := ⟨some 28, _, _, _, _, _⟩) (v := ?_) rfl (by kernel_rfl) (by kernel_rfl) (by kernel_rfl) (fun _ _ _ h => h) (Or.inl ⟨by kernel_rfl, ?_⟩) (by assumption) ?_
        rotate_left
        · (intro w hSw; (try dsimp only at hSw); (have c1 := cell_later' hSw A1.out; have c2 := cell_later' hSw A2.out; have c3 := cell_later' hSw A3.out; have c4 := cell_later' hSw A4.out; have c5 := cell_later' hSw A5.out; have c6 := cell_later' hSw A6.out; have c7 := cell_later' hSw A7.out); go_simp); all_goals (with_reducible rfl)
        try simp only [Act.put, List.setIfInBounds_toArray, List.set_cons_zero, List.set_cons_succ]
        refine wpAnyH_take (i := 7) (oi := ⟨some 29, _, _, _, _, _⟩) (v := ?_) rfl (by kernel_rfl) (by kernel_rfl) (by kernel_rfl) (fun _ _ _ h => h) (Or.inl ⟨by kernel_rfl, ?_⟩) (by assumption) ?_
        rotate_left
        · (intro w hSw; (try dsimp only at hSw); go_simp); all_goals (with_reducible rfl)
        try simp only [Act.put, List.setIfInBounds_toArray, List.set_cons_zero, List.set_cons_succ]
        refine wpAnyH_take (i := 8) (oi := ⟨some 30, _, _, _, _, _⟩) (v := ?_) rfl (by kernel_rfl) (by kernel_rfl) (by kernel_rfl) (fun _ _ _ h => h) (Or.inl ⟨by kernel_rfl, ?_⟩) (by assumption) ?_
        rotate_left
        · (intro w hSw; (try dsimp only at hSw); go_simp); all_goals (with_reducible rfl)
        try simp only [Act.put, List.setIfInBounds_toArray, List.set_cons_zero, List.set_cons_succ]
        refine wpAnyH_take (i := 9) (oi := ⟨some 31, _, _, _, _, _⟩) (v := ?_) rfl (by kernel_rfl) (by kernel_rfl) (by kernel_rfl) (fun _ _ _ h => h) (Or.inl ⟨by kernel_rfl, ?_⟩) (by assumption) ?_
        rotate_left
        · (intro w hSw; (try dsimp only at hSw); go_simp); all_goals (with_reducible rfl)
        try simp only [Act.put, List.setIfInBounds_toArray, List.set_cons_zero, List.set_cons_succ]
        refine wpAnyH_take (i := 10) (oi := ⟨some 32, _, _, _, _, _⟩) (v := ?_) rfl (by kernel_rfl) (by kernel_rfl) (by kernel_rfl) (fun _ _ _ h => h) (Or.inl ⟨by kernel_rfl, ?_⟩) (by assumption) ?_
        rotate_left
        · (intro w hSw; (try dsimp only at hSw); (have c1 := cell_later' hSw A1.out; have c2 := cell_later' hSw A2.out; have c3 := cell_later' hSw A3.out; have c4 := cell_later' hSw A4.out; have c5 := cell_later' hSw A5.out; have c6 := cell_later' hSw A6.out; have c7 := cell_later' hSw A7.out); go_simp); all_goals (with_reducible rfl)
        try simp only [Act.put, List.setIfInBounds_toArray, List.set_cons_zero, List.set_cons_succ]
        refine wpAnyH_take (i := 11) (oi := ⟨some 33, _, _, _, _, _⟩) (v := ?_) rfl (by kernel_rfl) (by kernel_rfl) (by kernel_rfl) (fun _ _ _ h => h) (Or.inl ⟨by kernel_rfl, ?_⟩) (by assumption) ?_
        rotate_left
        · (intro w hSw; (try dsimp only at hSw); go_simp); all_goals (with_reducible rfl)
        try simp only [Act.put, List.setIfInBounds_toArray, List.set_cons_zero, List.set_cons_succ]
        refine wpAnyH_take (i := 12) (oi := ⟨some 34, _, _, _, _, _⟩) (v := ?_) rfl (by kernel_rfl) (by kernel_rfl) (by kernel_rfl) (fun _ _ _ h => h) (Or.inl ⟨by kernel_rfl, ?_⟩) (by assumption) ?_
        rotate_left
        · (intro w hSw; (try dsimp only at hSw); go_simp); all_goals (with_reducible rfl)
        try simp only [Act.put, List.setIfInBounds_toArray, List.set_cons_zero, List.set_cons_succ]
        refine wpAnyH_take (i := 13) (oi := ⟨some 35, _, _, _, _, _⟩) (v := ?_) rfl (by kernel_rfl) (by kernel_rfl) (by kernel_rfl) (fun _ _ _ h => h) (Or.inl ⟨by kernel_rfl, ?_⟩) (by assumption) ?_
        rotate_left
        · (intro w hSw; (try dsimp only at hSw); go_simp); all_goals (with_reducible rfl)
        try simp only [Act.put, List.setIfInBounds_toArray, List.set_cons_zero, List.set_cons_succ]
        refine wpAnyH_take (i := 14) (oi := ⟨some 36, _, _, _, _, _⟩) (v := ?_) rfl (by kernel_rfl) (by kernel_rfl) (by kernel_rfl) (fun _ _ _ h => h) (Or.inl ⟨by kernel_rfl, ?_⟩) (by assumption) ?_
        rotate_left
        · (intro w hSw; (try dsimp only at hSw); (have c1 := cell_later' hSw A1.out; have c2 := cell_later' hSw A2.out; have c3 := cell_later' hSw A3.out; have c4 := cell_later' hSw A4.out; have c5 := cell_later' hSw A5.out; have c6 := cell_later' hSw A6.out; have c7 := cell_later' hSw A7.out); go_simp); all_goals (with_reducible rfl)
        try simp only [Act.put, List.setIfInBounds_toArray, List.set_cons_zero, List.set_cons_succ]
        refine wpAnyH_take (i := 15) (oi := ⟨some 37, _, _, _, _, _⟩) (v := ?_) rfl (by kernel_rfl) (by kernel_rfl) (by kernel_rfl) (fun _ _ _ h => h) (Or.inl ⟨by kernel_rfl, ?_⟩) (by assumption) ?_
        rotate_left
        · (intro w hSw; (try dsimp only at hSw); go_simp); all_goals (with_reducible rfl)
        try simp only [Act.put, List.setIfInBounds_toArray, List.set_cons_zero, List.set_cons_succ]
        refine wpAnyH_take (i := 16) (oi := ⟨some 38, _, _, _, _, _⟩) (v := ?_) rfl (by kernel_rfl) (by kernel_rfl) (by kernel_rfl) (fun _ _ _ h => h) (Or.inl ⟨by kernel_rfl, ?_⟩) (by assumption) ?_
        rotate_left
        · (intro w hSw; (try dsimp only at hSw); go_simp); all_goals (with_reducible rfl)
        try simp only [Act.put, List.setIfInBounds_toArray, List.set_cons_zero, List.set_cons_succ]
        refine wpAnyH_take (i := 17) (oi := ⟨some 39, _, _, _, _, _⟩) (v := ?_) rfl (by kernel_rfl) (by kernel_rfl) (by kernel_rfl) (fun _ _ _ h => h) (Or.inl ⟨by kernel_rfl, ?_⟩) (by assumption) ?_
        rotate_left
        · (intro w hSw; (try dsimp only at hSw); (have c1 := cell_later' hSw A1.out; have c2 := cell_later' hSw A2.out; have c3 := cell_later' hSw A3.out; have c4 := cell_later' hSw A4.out; have c5 := cell_later' hSw A5.out; have c6 := cell_later' hSw A6.out; have c7 := cell_later' hSw A7.out); go_simp); all_goals (with_reducible rfl)
        try simp only [Act.put, List.setIfInBounds_toArray, List.set_cons_zero, List.set_cons_succ]
        refine wpAnyH_take (i := 18) (oi := ⟨some 40, _, _, _, _, _⟩) (v := ?_) rfl (by kernel_rfl) (by kernel_rfl) (by kernel_rfl) (fun _ _ _ h => h) (Or.inl ⟨by kernel_rfl, ?_⟩) (by assumption) ?_
        rotate_left
        · (intro w hSw; (try dsimp only at hSw); go_simp); all_goals (with_reducible rfl)
        try simp only [Act.put, List.setIfInBounds_toArray, List.set_cons_zero, List.set_cons_succ]
        refine wpAnyH_take (i := 19) (oi := ⟨some 41, _, _, _, _, _⟩) (v := ?_) rfl (by kernel_rfl) (by kernel_rfl) (by kernel_rfl) (fun _ _ _ h => h) (Or.inl ⟨by kernel_rfl, ?_⟩) (by assumption) ?_
        rotate_left
        · (intro w hSw; (try dsimp only at hSw); go_simp); all_goals (with_reducible rfl)
        try simp only [Act.put, List.setIfInBounds_toArray, List.set_cons_zero, List.set_cons_succ]
        refine wpAnyH_take (i := 20) (oi := ⟨some 42, _, _, _, _, _⟩) (v := ?_) rfl (by kernel_rfl) (by kernel_rfl) (by kernel_rfl) (fun _ _ _ h => h) (Or.inl ⟨by kernel_rfl, ?_⟩) (by assumption) ?_
        rotate_left
        · (intro w hSw; (try dsimp only at hSw); (have c1 := cell_later' hSw A1.out; have c2 := cell_later' hSw A2.out; have c3 := cell_later' hSw A3.out; have c4 := cell_later' hSw A4.out; have c5 := cell_later' hSw A5.out; have c6 := cell_later' hSw A6.out; have c7 := cell_later' hSw A7.out); go_simp); all_goals (with_reducible rfl)
        try simp only [Act.put, List.setIfInBounds_toArray, List.set_cons_zero, List.set_cons_succ]
        refine wpAnyH_take (i := 22) (oi := ⟨some 44, _, _, _, _, _⟩) (v := ?_) rfl (by kernel_rfl) (by kernel_rfl) (by kernel_rfl) (fun _ _ _ h => h) (Or.inl ⟨by kernel_rfl, ?_⟩) (by assumption) ?_
        rotate_left
        · (intro w hSw; (try dsimp only at hSw); go_simp); all_goals (with_reducible rfl)
        try simp only [Act.put, List.setIfInBounds_toArray, List.set_cons_zero, List.set_cons_succ]
        refine wpAnyH_take (i := 23) (oi := ⟨some 45, _, _, _, _, _⟩) (v := ?_) rfl (by kernel_rfl) (by kernel_rfl) (by kernel_rfl) (fun _ _ _ h => h) (Or.inl ⟨by kernel_rfl, ?_⟩) (by assumption) ?_
        rotate_left
        · (intro w hSw; (try dsimp only at hSw); go_simp); all_goals (with_reducible rfl)
        try simp only [Act.put, List.setIfInBounds_toArray, List.set_cons_zero, List.set_cons_succ]
        refine wpAnyH_take (i := 24) (oi := ⟨some 46, _, _, _, _, _⟩) (v := ?_) rfl (by kernel_rfl) (by kernel_rfl) (by kernel_rfl) (fun _ _ _ h => h) (Or.inl ⟨by kernel_rfl, ?_⟩) (by assumption) ?_
        rotate_left
        · (intro w hSw; (try dsimp only at hSw); (have c1 := cell_later' hSw A1.out; have c2 := cell_later' hSw A2.out; have c3 := cell_later' hSw A3.out; have c4 := cell_later' hSw A4.out; have c5 := cell_later' hSw A5.out; have c6 := cell_later' hSw A6.out; have c7 := cell_later' hSw A7.out); go_simp); all_goals (with_reducible rfl)
        try simp only [Act.put, List.setIfInBounds_toArray, List.set_cons_zero, List.set_cons_succ]
        refine wpAnyH_ready (rs := [3, 27]) (by kernel_rfl) (by simp) ?_
        refine (AllReadyH.cons (o := ⟨some 25, _, _, _, _, _⟩) rfl (fun K hK => ?_) (AllReadyH.cons (o := ⟨some 6, _, _, _, _, _⟩) rfl (fun K hK => ?_) AllReadyH.nil))
        · rw [if_pos (by kernel_rfl)]
          refine wp_call_go Tryz.func68 (by kernel_rfl) (by kernel_rfl) (by rfl) (V1.out _) (by rfl) ?_
          rintro e w' ⟨rfl, rfl⟩
          refine ⟨_, rfl, ?_⟩
          refine hK.out _ _ (by assumption) (fun _ => ?_)
          clear hK K
          try simp only [Act.put, List.setIfInBounds_toArray, List.set_cons_zero, List.set_cons_succ]
          refine wpAnyH_ready (rs := [21, 27]) (by kernel_rfl) (by simp) ?_
          refine (AllReadyH.cons (o := ⟨some 43, _, _, _, _, _⟩) rfl (fun K hK => ?_) (AllReadyH.cons (o := ⟨some 6, _, _, _, _, _⟩) rfl (fun K hK => ?_) AllReadyH.nil))
          · rw [if_pos (by kernel_rfl)]
            refine wp_call_go Tryz.func68 (by kernel_rfl) (by kernel_rfl) (by rfl) (V6.out _) (by rfl) ?_
            rintro e w' ⟨rfl, rfl⟩
            refine ⟨_, rfl, ?_⟩
            refine hK.out _ _ (by assumption) (fun _ => ?_)
            clear hK K
            try simp only [Act.put, List.setIfInBounds_toArray, List.set_cons_zero, List.set_cons_succ]
            refine wpAnyH_ready (rs := [25, 27]) (by kernel_rfl) (by simp) ?_
            refine (AllReadyH.cons (o := ⟨some 47, _, _, _, _, _⟩) rfl (fun K hK => ?_) (AllReadyH.cons (o := ⟨some 6, _, _, _, _, _⟩) rfl (fun K hK => ?_) AllReadyH.nil))
            · rw [if_pos (by kernel_rfl)]
              refine wp_call_go Tryz.func68 (by kernel_rfl) (by kernel_rfl) (by rfl) (V7.out _) (by rfl) ?_
              rintro e w' ⟨rfl, rfl⟩
              refine ⟨_, rfl, ?_⟩
              refine hK.out _ _ (by assumption) (fun _ => ?_)
              clear hK K
              try simp only [Act.put, List.setIfInBounds_toArray, List.set_cons_zero, List.set_cons_succ]
              refine wpAnyH_take (i := 26) (oi := ⟨some 48, _, _, _, _, _⟩) (v := ?_) rfl (by kernel_rfl) (by kernel_rfl) (by kernel_rfl) (fun _ _ _ h => h) (Or.inl ⟨by kernel_rfl, ?_⟩) (by assumption) ?_
              rotate_left
              · (intro w hSw; (try dsimp only at hSw); go_simp); all_goals (with_reducible rfl)
              try simp only [Act.put, List.setIfInBounds_toArray, List.set_cons_zero, List.set_cons_succ]
              refine wpAnyH_ready (rs := [27]) (by kernel_rfl) (by simp) ?_
              refine (AllReadyH.cons (o := ⟨some 6, _, _, _, _, _⟩) rfl (fun K hK => ?_) AllReadyH.nil)
              rw [if_pos (by kernel_rfl)]
              go_wp2_with fail
              have hSx : (fun W : World => Below w1.heap.size w1 W) w0 := by assumption
              have hSy : (fun W : World => Below w1.heap.size w1 W) (w0.alloc (.cells verZeroC 47)) := Below.alloc hSx hSx.size _
              have Xv4 : Hid ((w0.alloc (.cells verZeroC 47)).heap[w0.heap.size]? = some (.cells verZeroC 47 (0, 0)) ∧ w1.heap.size ≤ w0.heap.size) := ⟨heap_alloc_new _ _, hSx.size⟩
              refine hK.out _ (w0.alloc (.cells verZeroC 47)) hSy (fun hSz => ?_)
              clear hSx hSy
              generalize w0.alloc (.cells verZeroC 47) = v4 at Xv4 hSz ⊢
              generalize w0.heap.size = gB at Xv4 ⊢
              clear hK K
              try simp only [Act.put, List.setIfInBounds_toArray, List.set_cons_zero, List.set_cons_succ]
              refine wpAnyH_ready (rs := [28]) (by kernel_rfl) (by simp) ?_
              refine (AllReadyH.cons (o := ⟨none, _, _, _, _, _⟩) rfl (fun K hK => ?_) AllReadyH.nil)
              rw [if_pos (by kernel_rfl)]
              refine wp_store_row 47 _ _ (by rfl) _ #[.int .i64 n1, .bool q2, .bool q3, .string ⟨t4.toArray⟩, .string ⟨t5.toArray⟩, .int .i64 n6, .int .i64 n7, .slice none 0 0] (by rfl) (by rfl) 47 verZeroC (Xv4.out).1 (by kernel_rfl) (by kernel_rfl) (by kernel_rfl) ?_
              have hSx : (fun W : World => Below w1.heap.size w1 W) v4 := by assumption
              have hSy : (fun W : World => Below w1.heap.size w1 W) (v4.setRow gB #[.int .i64 n1, .bool q2, .bool q3, .string ⟨t4.toArray⟩, .string ⟨t5.toArray⟩, .int .i64 n6, .int .i64 n7, .slice none 0 0]) := below_one_row _ _ _ _ _ hSx (Xv4.out).2
              have KX := Lib.hid (show RowsRf w1 (v4.setRow gB #[.int .i64 n1, .bool q2, .bool q3, .string ⟨t4.toArray⟩, .string ⟨t5.toArray⟩, .int .i64 n6, .int .i64 n7, .slice none 0 0]) gB #[.int .i64 n1, .bool q2, .bool q3, .string ⟨t4.toArray⟩, .string ⟨t5.toArray⟩, .int .i64 n6, .int .i64 n7, .slice none 0 0] 47 3 1 (.slice none 0 0) [] from ⟨hSy, setRow_heap _ _ _ _ _ _ (Xv4.out).1, (Xv4.out).2, World.ownsRow_nil _ _ _ _⟩)
              refine hK.out _ _ hSy (fun _ => ?_)
              clear hK K
              try simp only [Act.put]
              refine wpAnyH_done (by kernel_rfl) ?_ _
              go_wp2_with fail
              go_meet
              case rel => exact ⟨gB, rfl, KX.out⟩
            · rw [if_pos (by kernel_rfl)]
              go_wp2_with fail
              have hSx : (fun W : World => Below w1.heap.size w1 W) w0 := by assumption
              have hSy : (fun W : World => Below w1.heap.size w1 W) (w0.alloc (.cells verZeroC 47)) := Below.alloc hSx hSx.size _
              have Xv6 : Hid ((w0.alloc (.cells verZeroC 47)).heap[w0.heap.size]? = some (.cells verZeroC 47 (0, 0)) ∧ w1.heap.size ≤ w0.heap.size) := ⟨heap_alloc_new _ _, hSx.size⟩
              refine hK.out _ (w0.alloc (.cells verZeroC 47)) hSy (fun hSz => ?_)
              clear hSx hSy
              generalize w0.alloc (.cells verZeroC 47) = v6 at Xv6 hSz ⊢
              generalize w0.heap.size = gB at Xv6 ⊢
              clear hK K
              try simp only [Act.put, List.setIfInBounds_toArray, List.set_cons_zero, List.set_cons_succ]
              refine wpAnyH_ready (rs := [25]) (by kernel_rfl) (by simp) ?_
              refine (AllReadyH.cons (o := ⟨some 47, _, _, _, _, _⟩) rfl (fun K hK => ?_) AllReadyH.nil)
              rw [if_pos (by kernel_rfl)]
              refine wp_call_go Tryz.func68 (by kernel_rfl) (by kernel_rfl) (by rfl) (V7.out _) (by rfl) ?_
              rintro e w' ⟨rfl, rfl⟩
              refine ⟨_, rfl, ?_⟩
              refine hK.out _ _ (by assumption) (fun _ => ?_)
              clear hK K
              try simp only [Act.put, List.setIfInBounds_toArray, List.set_cons_zero, List.set_cons_succ]
              refine wpAnyH_take (i := 26) (oi := ⟨some 48, _, _, _, _, _⟩) (v := ?_) rfl (by kernel_rfl) (by kernel_rfl) (by kernel_rfl) (fun _ _ _ h => h) (Or.inl ⟨by kernel_rfl, ?_⟩) (by assumption) ?_
              rotate_left
              · (intro w hSw; (try dsimp only at hSw); go_simp); all_goals (with_reducible rfl)
              try simp only [Act.put, List.setIfInBounds_toArray, List.set_cons_zero, List.set_cons_succ]
              refine wpAnyH_ready (rs := [28]) (by kernel_rfl) (by simp) ?_
              refine (AllReadyH.cons (o := ⟨none, _, _, _, _, _⟩) rfl (fun K hK => ?_) AllReadyH.nil)
              rw [if_pos (by kernel_rfl)]
              refine wp_store_row 47 _ _ (by rfl) _ #[.int .i64 n1, .bool q2, .bool q3, .string ⟨t4.toArray⟩, .string ⟨t5.toArray⟩, .int .i64 n6, .int .i64 n7, .slice none 0 0] (by rfl) (by rfl) 47 verZeroC (Xv6.out).1 (by kernel_rfl) (by kernel_rfl) (by kernel_rfl) ?_
              have hSx : (fun W : World => Below w1.heap.size w1 W) v6 := by assumption
              have hSy : (fun W : World => Below w1.heap.size w1 W) (v6.setRow gB #[.int .i64 n1, .bool q2, .bool q3, .string ⟨t4.toArray⟩, .string ⟨t5.toArray⟩, .int .i64 n6, .int .i64 n7, .slice none 0 0]) := below_one_row _ _ _ _ _ hSx (Xv6.out).2
              have KX := Lib.hid (show RowsRf w1 (v6.setRow gB #[.int .i64 n1, .bool q2, .bool q3, .string ⟨t4.toArray⟩, .string ⟨t5.toArray⟩, .int .i64 n6, .int .i64 n7, .slice none 0 0]) gB #[.int .i64 n1, .bool q2, .bool q3, .string ⟨t4.toArray⟩, .string ⟨t5.toArray⟩, .int .i64 n6, .int .i64 n7, .slice none 0 0] 47 3 1 (.slice none 0 0) [] from ⟨hSy, setRow_heap _ _ _ _ _ _ (Xv6.out).1, (Xv6.out).2, World.ownsRow_nil _ _ _ _⟩)
              refine hK.out _ _ hSy (fun _ => ?_)
              clear hK K
              try simp only [Act.put]
              refine wpAnyH_done (by kernel_rfl) ?_ _
              go_wp2_with fail
              go_meet
              case rel => exact ⟨gB, rfl, KX.out⟩
          · rw [if_pos (by kernel_rfl)]
            go_wp2_with fail
            have hSx : (fun W : World => Below w1.heap.size w1 W) w0 := by assumption
            have hSy : (fun W : World => Below w1.heap.size w1 W) (w0.alloc (.cells verZeroC 47)) := Below.alloc hSx hSx.size _
            have Xv9 : Hid ((w0.alloc (.cells verZeroC 47)).heap[w0.heap.size]? = some (.cells verZeroC 47 (0, 0)) ∧ w1.heap.size ≤ w0.heap.size) := ⟨heap_alloc_new _ _, hSx.size⟩
            refine hK.out _ (w0.alloc (.cells verZeroC 47)) hSy (fun hSz => ?_)
            clear hSx hSy
            generalize w0.alloc (.cells verZeroC 47) = v9 at Xv9 hSz ⊢
            generalize w0.heap.size = gB at Xv9 ⊢
            clear hK K
            try simp only [Act.put, List.setIfInBounds_toArray, List.set_cons_zero, List.set_cons_succ]
            refine wpAnyH_ready (rs := [21]) (by kernel_rfl) (by simp) ?_
            refine (AllReadyH.cons (o := ⟨some 43, _, _, _, _, _⟩) rfl (fun K hK => ?_) AllReadyH.nil)
            rw [if_pos (by kernel_rfl)]
            refine wp_call_go Tryz.func68 (by kernel_rfl) (by kernel_rfl) (by rfl) (V6.out _) (by rfl) ?_
            rintro e w' ⟨rfl, rfl⟩
            refine ⟨_, rfl, ?_⟩
            refine hK.out _ _ (by assumption) (fun _ => ?_)
            clear hK K
            try simp only [Act.put, List.setIfInBounds_toArray, List.set_cons_zero, List.set_cons_succ]
            refine wpAnyH_ready (rs := [25]) (by kernel_rfl) (by simp) ?_
            refine (AllReadyH.cons (o := ⟨some 47, _, _, _, _, _⟩) rfl (fun K hK => ?_) AllReadyH.nil)
            rw [if_pos (by kernel_rfl)]
            refine wp_call_go Tryz.func68 (by kernel_rfl) (by kernel_rfl) (by rfl) (V7.out _) (by rfl) ?_
            rintro e w' ⟨rfl, rfl⟩
            refine ⟨_, rfl, ?_⟩
            refine hK.out _ _ (by assumption) (fun _ => ?_)
            clear hK K
            try simp only [Act.put, List.setIfInBounds_toArray, List.set_cons_zero, List.set_cons_succ]
            refine wpAnyH_take (i := 26) (oi := ⟨some 48, _, _, _, _, _⟩) (v := ?_) rfl (by kernel_rfl) (by kernel_rfl) (by kernel_rfl) (fun _ _ _ h => h) (Or.inl ⟨by kernel_rfl, ?_⟩) (by assumption) ?_
            rotate_left
            · (intro w hSw; (try dsimp only at hSw); go_simp); all_goals (with_reducible rfl)
            try simp only [Act.put, List.setIfInBounds_toArray, List.set_cons_zero, List.set_cons_succ]
            refine wpAnyH_ready (rs := [28]) (by kernel_rfl) (by simp) ?_
            refine (AllReadyH.cons (o := ⟨none, _, _, _, _, _⟩) rfl (fun K hK => ?_) AllReadyH.nil)
            rw [if_pos (by kernel_rfl)]
            refine wp_store_row 47 _ _ (by rfl) _ #[.int .i64 n1, .bool q2, .bool q3, .string ⟨t4.toArray⟩, .string ⟨t5.toArray⟩, .int .i64 n6, .int .i64 n7, .slice none 0 0] (by rfl) (by rfl) 47 verZeroC (Xv9.out).1 (by kernel_rfl) (by kernel_rfl) (by kernel_rfl) ?_
            have hSx : (fun W : World => Below w1.heap.size w1 W) v9 := by assumption
            have hSy : (fun W : World => Below w1.heap.size w1 W) (v9.setRow gB #[.int .i64 n1, .bool q2, .bool q3, .string ⟨t4.toArray⟩, .string ⟨t5.toArray⟩, .int .i64 n6, .int .i64 n7, .slice none 0 0]) := below_one_row _ _ _ _ _ hSx (Xv9.out).2
            have KX := Lib.hid (show RowsRf w1 (v9.setRow gB #[.int .i64 n1, .bool q2, .bool q3, .string ⟨t4.toArray⟩, .string ⟨t5.toArray⟩, .int .i64 n6, .int .i64 n7, .slice none 0 0]) gB #[.int .i64 n1, .bool q2, .bool q3, .string ⟨t4.toArray⟩, .string ⟨t5.toArray⟩, .int .i64 n6, .int .i64 n7, .slice none 0 0] 47 3 1 (.slice none 0 0) [] from ⟨hSy, setRow_heap _ _ _ _ _ _ (Xv9.out).1, (Xv9.out).2, World.ownsRow_nil _ _ _ _⟩)
            refine hK.out _ _ hSy (fun _ => ?_)
            clear hK K
            try simp only [Act.put]
            refine wpAnyH_done (by kernel_rfl) ?_ _
            go_wp2_with fail
            go_meet
            case rel => exact ⟨gB, rfl, KX.out⟩
        · rw [if_pos (by kernel_rfl)]
          go_wp2_with fail
          have hSx : (fun W : World => Below w1.heap.size w1 W) w0 := by assumption
          have hSy : (fun W : World => Below w1.heap.size w1 W) (w0.alloc (.cells verZeroC 47)) := Below.alloc hSx hSx.size _
          have Xv13 : Hid ((w0.alloc (.cells verZeroC 47)).heap[w0.heap.size]? = some (.cells verZeroC 47 (0, 0)) ∧ w1.heap.size ≤ w0.heap.size) := ⟨heap_alloc_new _ _, hSx.size⟩
          refine hK.out _ (w0.alloc (.cells verZeroC 47)) hSy (fun hSz => ?_)
          clear hSx hSy
          generalize w0.alloc (.cells verZeroC 47) = v13 at Xv13 hSz ⊢
          generalize w0.heap.size = gB at Xv13 ⊢
          clear hK K
          try simp only [Act.put, List.setIfInBounds_toArray, List.set_cons_zero, List.set_cons_succ]
          refine wpAnyH_ready (rs := [3]) (by kernel_rfl) (by simp) ?_
          refine (AllReadyH.cons (o := ⟨some 25, _, _, _, _, _⟩) rfl (fun K hK => ?_) AllReadyH.nil)
          rw [if_pos (by kernel_rfl)]
          refine wp_call_go Tryz.func68 (by kernel_rfl) (by kernel_rfl) (by rfl) (V1.out _) (by rfl) ?_
          rintro e w' ⟨rfl, rfl⟩
          refine ⟨_, rfl, ?_⟩
          refine hK.out _ _ (by assumption) (fun _ => ?_)
          clear hK K
          try simp only [Act.put, List.setIfInBounds_toArray, List.set_cons_zero, List.set_cons_succ]
          refine wpAnyH_ready (rs := [21]) (by kernel_rfl) (by simp) ?_
          refine (AllReadyH.cons (o := ⟨some 43, _, _, _, _, _⟩) rfl (fun K hK => ?_) AllReadyH.nil)
          rw [if_pos (by kernel_rfl)]
          refine wp_call_go Tryz.func68 (by kernel_rfl) (by kernel_rfl) (by rfl) (V6.out _) (by rfl) ?_
          rintro e w' ⟨rfl, rfl⟩
          refine ⟨_, rfl, ?_⟩
          refine hK.out _ _ (by assumption) (fun _ => ?_)
          clear hK K
          try simp only [Act.put, List.setIfInBounds_toArray, List.set_cons_zero, List.set_cons_succ]
          refine wpAnyH_ready (rs := [25]) (by kernel_rfl) (by simp) ?_
          refine (AllReadyH.cons (o := ⟨some 47, _, _, _, _, _⟩) rfl (fun K hK => ?_) AllReadyH.nil)
          rw [if_pos (by kernel_rfl)]
          refine wp_call_go Tryz.func68 (by kernel_rfl) (by kernel_rfl) (by rfl) (V7.out _) (by rfl) ?_
          rintro e w' ⟨rfl, rfl⟩
          refine ⟨_, rfl, ?_⟩
          refine hK.out _ _ (by assumption) (fun _ => ?_)
          clear hK K
          try simp only [Act.put, List.setIfInBounds_toArray, List.set_cons_zero, List.set_cons_succ]
          refine wpAnyH_take (i := 26) (oi := ⟨some 48, _, _, _, _, _⟩) (v := ?_) rfl (by kernel_rfl) (by kernel_rfl) (by kernel_rfl) (fun _ _ _ h => h) (Or.inl ⟨by kernel_rfl, ?_⟩) (by assumption) ?_
          rotate_left
          · (intro w hSw; (try dsimp only at hSw); go_simp); all_goals (with_reducible rfl)
          try simp only [Act.put, List.setIfInBounds_toArray, List.set_cons_zero, List.set_cons_succ]
          refine wpAnyH_ready (rs := [28]) (by kernel_rfl) (by simp) ?_
          refine (AllReadyH.cons (o := ⟨none, _, _, _, _, _⟩) rfl (fun K hK => ?_) AllReadyH.nil)
          rw [if_pos (by kernel_rfl)]
          refine wp_store_row 47 _ _ (by rfl) _ #[.int .i64 n1, .bool q2, .bool q3, .string ⟨t4.toArray⟩, .string ⟨t5.toArray⟩, .int .i64 n6, .int .i64 n7, .slice none 0 0] (by rfl) (by rfl) 47 verZeroC (Xv13.out).1 (by kernel_rfl) (by kernel_rfl) (by kernel_rfl) ?_
          have hSx : (fun W : World => Below w1.heap.size w1 W) v13 := by assumption
          have hSy : (fun W : World => Below w1.heap.size w1 W) (v13.setRow gB #[.int .i64 n1, .bool q2, .bool q3, .string ⟨t4.toArray⟩, .string ⟨t5.toArray⟩, .int .i64 n6, .int .i64 n7, .slice none 0 0]) := below_one_row _ _ _ _ _ hSx (Xv13.out).2
          have KX := Lib.hid (show RowsRf w1 (v13.setRow gB #[.int .i64 n1, .bool q2, .bool q3, .string ⟨t4.toArray⟩, .string ⟨t5.toArray⟩, .int .i64 n6, .int .i64 n7, .slice none 0 0]) gB #[.int .i64 n1, .bool q2, .bool q3, .string ⟨t4.toArray⟩, .string ⟨t5.toArray⟩, .int .i64 n6, .int .i64 n7, .slice none 0 0] 47 3 1 (.slice none 0 0) [] from ⟨hSy, setRow_heap _ _ _ _ _ _ (Xv13.out).1, (Xv13.out).2, World.ownsRow_nil _ _ _ _⟩)
          refine hK.out _ _ hSy (fun _ => ?_)
          clear hK K
          try simp only [Act.put]
          refine wpAnyH_done (by kernel_rfl) ?_ _
          go_wp2_with fail
          go_meet
          case rel => exact ⟨gB, rfl, KX.out⟩
      case rest =>
        obtain ⟨gB, rfl, hK0⟩ := hcut
        obtain ⟨wx, rfl⟩ : ∃ wx : World, wx = wc := ⟨_, rfl⟩
        have KX := Lib.hid hK0
        clear hK0 hS1 V1 V6 V7 A1 A2 A3 A4 A5 A6 A7
        obtain ⟨i0, hi, hz0, hz1, hz2⟩ := info_int
        go_wp2
        go_loopg [7] l.length (fun gg s7 wr => ∃ (k : Nat) (v : Value), 9 ≤ k ∧ k ≤ l.length ∧ l.length - k ≤ gg ∧ s7 = .int .i64 k ∧ Hid (RowsRf w1 wr gB #[.int .i64 n1, .bool q2, .bool q3, .string ⟨t4.toArray⟩, .string ⟨t5.toArray⟩, .int .i64 n6, .int .i64 n7, v] 47 3 1 v (intRows (numsOf l k))))
        case atStart => exact ⟨9, .slice none 0 0, by omega, by omega, by omega, rfl, by rw [numsOf_start]; exact KX.out⟩
        case round =>
          obtain ⟨k, v, hk9, hkN, hgg, rfl, Kwr⟩ := hrel
          clear KX
          by_cases hlt : k < l.length
          · have hltz : (k : Int) < (l.length : Int) := by omega
            obtain ⟨y, hy⟩ : ∃ y, l[k]? = some y := ⟨_, List.getElem?_eq_getElem (by omega)⟩
            have E0 := Lib.hid (HAT.out k y hy)
            have VX1 := Lib.hid (fun W => VR.out k y hy W)
            have HS := Lib.hid (numsOf_snoc hy hk9)
            obtain ⟨x, hx⟩ : ∃ x, valueL y = x := ⟨_, rfl⟩
            rw [hx] at VX1 HS
            obtain ⟨rows, hrows⟩ : ∃ rs, intRows (numsOf l k) = rs := ⟨_, rfl⟩
            have hrl : rows.length ≤ l.length := by rw [← hrows, intRows_len, numsOf_len (by omega)]; omega
            rw [hrows] at Kwr
            have HRW := Lib.hid hrows
            clear hy hx hrows
            go_wp2
            refine wp_region_held_drew (S := (fun W : World => Below w1.heap.size w1 W)) (by kernel_rfl) (by exact (Kwr.out.later (Below.refl _ _).drew).below) (fun hS0 => ?_)
            have Kw0 := Lib.hid (Kwr.out.later (Below.refl _ _).drew)
            generalize wr.drew = w0 at Kw0 hS0 ⊢
            clear Kwr
            refine wpAnyH_take (i := 0) (oi := ⟨some 55, _, _, _, _, _⟩) (v := ?_) rfl (by kernel_rfl) (by kernel_rfl) (by kernel_rfl) (fun _ _ _ h => h) (Or.inl ⟨by kernel_rfl, ?_⟩) (by assumption) ?_
            rotate_left
            · (intro w hSw; (try dsimp only at hSw); go_simp); all_goals (with_reducible rfl)
            try simp only [Act.put, List.setIfInBounds_toArray, List.set_cons_zero, List.set_cons_succ]
            refine wpAnyH_take (i := 2) (oi := ⟨some 57, _, _, _, _, _⟩) (v := ?_) rfl (by kernel_rfl) (by kernel_rfl) (by kernel_rfl) (fun _ _ _ h => h) (Or.inl ⟨by kernel_rfl, ?_⟩) (by assumption) ?_
            rotate_left
            · (intro w hSw; (try dsimp only at hSw); go_simp); all_goals (with_reducible rfl)
            try simp only [Act.put, List.setIfInBounds_toArray, List.set_cons_zero, List.set_cons_succ]
            refine wpAnyH_take (i := 3) (oi := ⟨some 58, _, _, _, _, _⟩) (v := ?_) rfl (by kernel_rfl) (by kernel_rfl) (by kernel_rfl) (fun _ _ _ h => h) (Or.inl ⟨by kernel_rfl, ?_⟩) (by assumption) ?_
            rotate_left
            · (intro w hSw; (try dsimp only at hSw); go_simp); all_goals (with_reducible rfl)
            try simp only [Act.put, List.setIfInBounds_toArray, List.set_cons_zero, List.set_cons_succ]
            refine wpAnyH_take (i := 4) (oi := ⟨some 59, _, _, _, _, _⟩) (v := ?_) rfl (by kernel_rfl) (by kernel_rfl) (by kernel_rfl) (fun _ _ _ h => h) (Or.inl ⟨by kernel_rfl, ?_⟩) (by assumption) ?_
            rotate_left
            · (intro w hSw; (try dsimp only at hSw); go_simp); all_goals (with_reducible rfl)
            try simp only [Act.put, List.setIfInBounds_toArray, List.set_cons_zero, List.set_cons_succ]
            refine wpAnyH_take (i := 5) (oi := ⟨some 60, _, _, _, _, _⟩) (v := ?_) rfl (by kernel_rfl) (by kernel_rfl) (by kernel_rfl) (fun _ _ _ h => h) (Or.inl ⟨by kernel_rfl, ?_⟩) (by assumption) ?_
            rotate_left
            · (intro w hSw; (try dsimp only at hSw); (have e0 := cell_later' hSw E0.out); go_simp); all_goals (with_reducible rfl)
            try simp only [Act.put, List.setIfInBounds_toArray, List.set_cons_zero, List.set_cons_succ]
            refine wpAnyH_ready (rs := [1, 6]) (by kernel_rfl) (by simp) ?_
            refine (AllReadyH.cons (o := ⟨some 56, _, _, _, _, _⟩) rfl (fun K hK => ?_) (AllReadyH.cons (o := ⟨some 61, _, _, _, _, _⟩) rfl (fun K hK => ?_) AllReadyH.nil))
            · rw [if_pos (by kernel_rfl)]
              have c7 : w0.cell? ⟨gB, 7, none⟩ = some v := cell_of_heap Kw0.out.box
              go_wp2_with fail
              clear c7
              refine hK.out _ _ (by assumption) (fun _ => ?_)
              clear hK K
              try simp only [Act.put, List.setIfInBounds_toArray, List.set_cons_zero, List.set_cons_succ]
              refine wpAnyH_ready (rs := [6]) (by kernel_rfl) (by simp) ?_
              refine (AllReadyH.cons (o := ⟨some 61, _, _, _, _, _⟩) rfl (fun K hK => ?_) AllReadyH.nil)
              rw [if_pos (by kernel_rfl)]
              refine wp_call_go Tryz.func68 (by kernel_rfl) (by kernel_rfl) (by rfl) (VX1.out _) (by rfl) ?_
              rintro e w' ⟨rfl, rfl⟩
              refine ⟨_, rfl, ?_⟩
              refine hK.out _ _ (by assumption) (fun _ => ?_)
              clear hK K
              try simp only [Act.put, List.setIfInBounds_toArray, List.set_cons_zero, List.set_cons_succ]
              refine wpAnyH_ready (rs := [7]) (by kernel_rfl) (by simp) ?_
              refine (AllReadyH.cons (o := ⟨some 62, _, _, _, _, _⟩) rfl (fun K hK => ?_) AllReadyH.nil)
              rw [if_pos (by kernel_rfl)]
              go_wp2_with fail
              have Kz3 := Lib.hid (Kw0.out.later (below_alloc (Below.refl _ _) (Nat.le_refl _) (.cells #[.int .i64 x] 3)))
              have HBz3 := Lib.hid (heap_alloc_new w0 (.cells #[.int .i64 x] 3))
              refine hK.out _ (w0.alloc (.cells #[.int .i64 x] 3)) Kz3.out.below (fun hSz => ?_)
              generalize w0.alloc (.cells #[.int .i64 x] 3) = z3 at Kz3 HBz3 hSz ⊢
              generalize w0.heap.size = gA at HBz3 ⊢
              clear Kw0
              clear hK K
              try simp only [Act.put, List.setIfInBounds_toArray, List.set_cons_zero, List.set_cons_succ]
              refine wpAnyH_ready (rs := [8]) (by kernel_rfl) (by simp) ?_
              refine (AllReadyH.cons (o := ⟨some 63, _, _, _, _, _⟩) rfl (fun K hK => ?_) AllReadyH.nil)
              rw [if_pos (by kernel_rfl)]
              refine wp_append_lies _ _ _ _ (by rfl) (gB + 1) 3 i0 _ 1 8 Tryz.underlying45 hi hz0 hz1 hz2 rfl (by decide) v rows.length rows.flatten (by rfl) Kz3.out.own ⟨gA, 0, none⟩ 1 1 [.int .i64 x] (by rfl) (by rfl) (fun j u hj => by rw [Addr.add_lit, cell_of_heap HBz3.out]; simpa using hj) (by simp [Value.oneCell']) (by decide) (by simp only [maxLen]; omega) (by omega) (by have := Kz3.out.lt; omega) _ rfl ?_
              intro g2 cap z4 hown hgr hat hlt3
              have KP := Lib.hid (Kz3.out.pushRow (new := #[.int .i64 n1, .bool q2, .bool q3, .string ⟨t4.toArray⟩, .string ⟨t5.toArray⟩, .int .i64 n6, .int .i64 n7, .slice (some ⟨g2, 0, none⟩) (rows.length + 1) cap]) hown hgr)
              have XA := Lib.hid (Kz3.out.grown hgr)
              clear hown hgr hat hlt3
              refine hK.out _ _ XA.out.2 (fun _ => ?_)
              clear hK K
              try simp only [Act.put, List.setIfInBounds_toArray, List.set_cons_zero, List.set_cons_succ]
              refine wpAnyH_take (i := 9) (oi := ⟨some 64, _, _, _, _, _⟩) (v := ?_) rfl (by kernel_rfl) (by kernel_rfl) (by kernel_rfl) (fun _ _ _ h => h) (Or.inl ⟨by kernel_rfl, ?_⟩) (by assumption) ?_
              rotate_left
              · (intro w hSw; (try dsimp only at hSw); go_simp); all_goals (with_reducible rfl)
              try simp only [Act.put, List.setIfInBounds_toArray, List.set_cons_zero, List.set_cons_succ]
              refine wpAnyH_ready (rs := [10]) (by kernel_rfl) (by simp) ?_
              refine (AllReadyH.cons (o := ⟨none, _, _, _, _, _⟩) rfl (fun K hK => ?_) AllReadyH.nil)
              rw [if_pos (by kernel_rfl)]
              refine wp_store_cell 45 _ _ (by rfl) gB 7 (.slice (some ⟨g2, 0, none⟩) (rows.length + 1) cap) (by rfl) (by rfl) (by rfl) _ 47 XA.out.1 (by simp) (by kernel_rfl) ?_
              refine hK.out _ (z4.setRow gB #[.int .i64 n1, .bool q2, .bool q3, .string ⟨t4.toArray⟩, .string ⟨t5.toArray⟩, .int .i64 n6, .int .i64 n7, .slice (some ⟨g2, 0, none⟩) (rows.length + 1) cap]) KP.out.below (fun _ => ?_)
              clear hK K
              try simp only [Act.put]
              refine wpAnyH_done (by kernel_rfl) ?_ _
              go_wp2
              go_roundg (l.length - (k + 1))
              case measure => omega
              case rel =>
                refine ⟨k + 1, .slice (some ⟨g2, 0, none⟩) (rows.length + 1) cap, by omega, by omega, Nat.le_refl _, by go_num, ?_⟩
                have e2 : intRows (numsOf l (k + 1)) = rows ++ [[.int .i64 x]] := by rw [HS.out, ← HRW.out]; simp [intRows]
                rw [e2]
                exact KP.out
            · rw [if_pos (by kernel_rfl)]
              refine wp_call_go Tryz.func68 (by kernel_rfl) (by kernel_rfl) (by rfl) (VX1.out _) (by rfl) ?_
              rintro e w' ⟨rfl, rfl⟩
              refine ⟨_, rfl, ?_⟩
              refine hK.out _ _ (by assumption) (fun _ => ?_)
              clear hK K
              try simp only [Act.put, List.setIfInBounds_toArray, List.set_cons_zero, List.set_cons_succ]
              refine wpAnyH_ready (rs := [1, 7]) (by kernel_rfl) (by simp) ?_
              refine (AllReadyH.cons (o := ⟨some 56, _, _, _, _, _⟩) rfl (fun K hK => ?_) (AllReadyH.cons (o := ⟨some 62, _, _, _, _, _⟩) rfl (fun K hK => ?_) AllReadyH.nil))
              · rw [if_pos (by kernel_rfl)]
                have c7 : w0.cell? ⟨gB, 7, none⟩ = some v := cell_of_heap Kw0.out.box
                go_wp2_with fail
                clear c7
                refine hK.out _ _ (by assumption) (fun _ => ?_)
                clear hK K
                try simp only [Act.put, List.setIfInBounds_toArray, List.set_cons_zero, List.set_cons_succ]
                refine wpAnyH_ready (rs := [7]) (by kernel_rfl) (by simp) ?_
                refine (AllReadyH.cons (o := ⟨some 62, _, _, _, _, _⟩) rfl (fun K hK => ?_) AllReadyH.nil)
                rw [if_pos (by kernel_rfl)]
                go_wp2_with fail
                have Kz8 := Lib.hid (Kw0.out.later (below_alloc (Below.refl _ _) (Nat.le_refl _) (.cells #[.int .i64 x] 3)))
                have HBz8 := Lib.hid (heap_alloc_new w0 (.cells #[.int .i64 x] 3))
                refine hK.out _ (w0.alloc (.cells #[.int .i64 x] 3)) Kz8.out.below (fun hSz => ?_)
                generalize w0.alloc (.cells #[.int .i64 x] 3) = z8 at Kz8 HBz8 hSz ⊢
                generalize w0.heap.size = gA at HBz8 ⊢
                clear Kw0
                clear hK K
                try simp only [Act.put, List.setIfInBounds_toArray, List.set_cons_zero, List.set_cons_succ]
                refine wpAnyH_ready (rs := [8]) (by kernel_rfl) (by simp) ?_
                refine (AllReadyH.cons (o := ⟨some 63, _, _, _, _, _⟩) rfl (fun K hK => ?_) AllReadyH.nil)
                rw [if_pos (by kernel_rfl)]
                refine wp_append_lies _ _ _ _ (by rfl) (gB + 1) 3 i0 _ 1 8 Tryz.underlying45 hi hz0 hz1 hz2 rfl (by decide) v rows.length rows.flatten (by rfl) Kz8.out.own ⟨gA, 0, none⟩ 1 1 [.int .i64 x] (by rfl) (by rfl) (fun j u hj => by rw [Addr.add_lit, cell_of_heap HBz8.out]; simpa using hj) (by simp [Value.oneCell']) (by decide) (by simp only [maxLen]; omega) (by omega) (by have := Kz8.out.lt; omega) _ rfl ?_
                intro g2 cap z9 hown hgr hat hlt3
                have KP := Lib.hid (Kz8.out.pushRow (new := #[.int .i64 n1, .bool q2, .bool q3, .string ⟨t4.toArray⟩, .string ⟨t5.toArray⟩, .int .i64 n6, .int .i64 n7, .slice (some ⟨g2, 0, none⟩) (rows.length + 1) cap]) hown hgr)
                have XA := Lib.hid (Kz8.out.grown hgr)
                clear hown hgr hat hlt3
                refine hK.out _ _ XA.out.2 (fun _ => ?_)
                clear hK K
                try simp only [Act.put, List.setIfInBounds_toArray, List.set_cons_zero, List.set_cons_succ]
                refine wpAnyH_take (i := 9) (oi := ⟨some 64, _, _, _, _, _⟩) (v := ?_) rfl (by kernel_rfl) (by kernel_rfl) (by kernel_rfl) (fun _ _ _ h => h) (Or.inl ⟨by kernel_rfl, ?_⟩) (by assumption) ?_
                rotate_left
                · (intro w hSw; (try dsimp only at hSw); go_simp); all_goals (with_reducible rfl)
                try simp only [Act.put, List.setIfInBounds_toArray, List.set_cons_zero, List.set_cons_succ]
                refine wpAnyH_ready (rs := [10]) (by kernel_rfl) (by simp) ?_
                refine (AllReadyH.cons (o := ⟨none, _, _, _, _, _⟩) rfl (fun K hK => ?_) AllReadyH.nil)
                rw [if_pos (by kernel_rfl)]
                refine wp_store_cell 45 _ _ (by rfl) gB 7 (.slice (some ⟨g2, 0, none⟩) (rows.length + 1) cap) (by rfl) (by rfl) (by rfl) _ 47 XA.out.1 (by simp) (by kernel_rfl) ?_
                refine hK.out _ (z9.setRow gB #[.int .i64 n1, .bool q2, .bool q3, .string ⟨t4.toArray⟩, .string ⟨t5.toArray⟩, .int .i64 n6, .int .i64 n7, .slice (some ⟨g2, 0, none⟩) (rows.length + 1) cap]) KP.out.below (fun _ => ?_)
                clear hK K
                try simp only [Act.put]
                refine wpAnyH_done (by kernel_rfl) ?_ _
                go_wp2
                go_roundg (l.length - (k + 1))
                case measure => omega
                case rel =>
                  refine ⟨k + 1, .slice (some ⟨g2, 0, none⟩) (rows.length + 1) cap, by omega, by omega, Nat.le_refl _, by go_num, ?_⟩
                  have e2 : intRows (numsOf l (k + 1)) = rows ++ [[.int .i64 x]] := by rw [HS.out, ← HRW.out]; simp [intRows]
                  rw [e2]
                  exact KP.out
              · rw [if_pos (by kernel_rfl)]
                go_wp2_with fail
                have Kz11 := Lib.hid (Kw0.out.later (below_alloc (Below.refl _ _) (Nat.le_refl _) (.cells #[.int .i64 x] 3)))
                have HBz11 := Lib.hid (heap_alloc_new w0 (.cells #[.int .i64 x] 3))
                refine hK.out _ (w0.alloc (.cells #[.int .i64 x] 3)) Kz11.out.below (fun hSz => ?_)
                generalize w0.alloc (.cells #[.int .i64 x] 3) = z11 at Kz11 HBz11 hSz ⊢
                generalize w0.heap.size = gA at HBz11 ⊢
                clear Kw0
                clear hK K
                try simp only [Act.put, List.setIfInBounds_toArray, List.set_cons_zero, List.set_cons_succ]
                refine wpAnyH_ready (rs := [1]) (by kernel_rfl) (by simp) ?_
                refine (AllReadyH.cons (o := ⟨some 56, _, _, _, _, _⟩) rfl (fun K hK => ?_) AllReadyH.nil)
                rw [if_pos (by kernel_rfl)]
                have c7 : z11.cell? ⟨gB, 7, none⟩ = some v := cell_of_heap Kz11.out.box
                go_wp2_with fail
                clear c7
                refine hK.out _ _ (by assumption) (fun _ => ?_)
                clear hK K
                try simp only [Act.put, List.setIfInBounds_toArray, List.set_cons_zero, List.set_cons_succ]
                refine wpAnyH_ready (rs := [8]) (by kernel_rfl) (by simp) ?_
                refine (AllReadyH.cons (o := ⟨some 63, _, _, _, _, _⟩) rfl (fun K hK => ?_) AllReadyH.nil)
                rw [if_pos (by kernel_rfl)]
                refine wp_append_lies _ _ _ _ (by rfl) (gB + 1) 3 i0 _ 1 8 Tryz.underlying45 hi hz0 hz1 hz2 rfl (by decide) v rows.length rows.flatten (by rfl) Kz11.out.own ⟨gA, 0, none⟩ 1 1 [.int .i64 x] (by rfl) (by rfl) (fun j u hj => by rw [Addr.add_lit, cell_of_heap HBz11.out]; simpa using hj) (by simp [Value.oneCell']) (by decide) (by simp only [maxLen]; omega) (by omega) (by have := Kz11.out.lt; omega) _ rfl ?_
                intro g2 cap z13 hown hgr hat hlt3
                have KP := Lib.hid (Kz11.out.pushRow (new := #[.int .i64 n1, .bool q2, .bool q3, .string ⟨t4.toArray⟩, .string ⟨t5.toArray⟩, .int .i64 n6, .int .i64 n7, .slice (some ⟨g2, 0, none⟩) (rows.length + 1) cap]) hown hgr)
                have XA := Lib.hid (Kz11.out.grown hgr)
                clear hown hgr hat hlt3
                refine hK.out _ _ XA.out.2 (fun _ => ?_)
                clear hK K
                try simp only [Act.put, List.setIfInBounds_toArray, List.set_cons_zero, List.set_cons_succ]
                refine wpAnyH_take (i := 9) (oi := ⟨some 64, _, _, _, _, _⟩) (v := ?_) rfl (by kernel_rfl) (by kernel_rfl) (by kernel_rfl) (fun _ _ _ h => h) (Or.inl ⟨by kernel_rfl, ?_⟩) (by assumption) ?_
                rotate_left
                · (intro w hSw; (try dsimp only at hSw); go_simp); all_goals (with_reducible rfl)
                try simp only [Act.put, List.setIfInBounds_toArray, List.set_cons_zero, List.set_cons_succ]
                refine wpAnyH_ready (rs := [10]) (by kernel_rfl) (by simp) ?_
                refine (AllReadyH.cons (o := ⟨none, _, _, _, _, _⟩) rfl (fun K hK => ?_) AllReadyH.nil)
                rw [if_pos (by kernel_rfl)]
                refine wp_store_cell 45 _ _ (by rfl) gB 7 (.slice (some ⟨g2, 0, none⟩) (rows.length + 1) cap) (by rfl) (by rfl) (by rfl) _ 47 XA.out.1 (by simp) (by kernel_rfl) ?_
                refine hK.out _ (z13.setRow gB #[.int .i64 n1, .bool q2, .bool q3, .string ⟨t4.toArray⟩, .string ⟨t5.toArray⟩, .int .i64 n6, .int .i64 n7, .slice (some ⟨g2, 0, none⟩) (rows.length + 1) cap]) KP.out.below (fun _ => ?_)
                clear hK K
                try simp only [Act.put]
                refine wpAnyH_done (by kernel_rfl) ?_ _
                go_wp2
                go_roundg (l.length - (k + 1))
                case measure => omega
                case rel =>
                  refine ⟨k + 1, .slice (some ⟨g2, 0, none⟩) (rows.length + 1) cap, by omega, by omega, Nat.le_refl _, by go_num, ?_⟩
                  have e2 : intRows (numsOf l (k + 1)) = rows ++ [[.int .i64 x]] := by rw [HS.out, ← HRW.out]; simp [intRows]
                  rw [e2]
                  exact KP.out
          · have hltz : ¬ ((k : Int) < (l.length : Int)) := by omega
            obtain rfl : k = l.length := by omega
            obtain ⟨rs, hrs⟩ : ∃ rs, numsOf l l.length = rs := ⟨_, rfl⟩
            have hrl : rs.length ≤ l.length := by rw [← hrs, numsOf_len (by omega)]; omega
            rw [hrs] at Kwr HY HTP
            clear hrs
            have K := Kwr
            clear Kwr
            have B1K : Hid (Below w.heap.size w wr) := B1.out.trans (K.out.below.mono (by have := HW1.out; omega))
            have Z1K := Lib.hid ((K.out.below.block _ HW1.out).trans Z1.out)
            have HSL : Hid (∀ W : World, (∀ x, gB + 1 ≤ x → x < wr.heap.size → W.heap[x]? = wr.heap[x]?) → SlAt W 1 v (intRows rs)) := fun W hW => own_slAt (rows := intRows rs) (own_kept K.out.own hW) (intRows_one rs) (by rw [intRows_len]; omega)
            obtain ⟨a, ca, hv⟩ := K.out.form
            rw [intRows_len] at hv
            subst hv
            have H1 := Lib.hid K.out.box
            have HS0 := Lib.hid (HSL.out _ (fun _ _ _ => rfl))
            have HFAR : Hid (w.heap.size < gB) := Nat.lt_of_lt_of_le HW1.out K.out.far
            go_wp2_with (refine wpList_load_row (by rfl) 47 _ (by rfl) gB (by rfl) 47 _ (0, 0) _ (by exact H1.out) Tryz.underlying47 rfl (by kernel_rfl) ?_)
            refine (HTP.out _ wr HS0.out).mono ?_
            rintro e w2 ⟨rfl, hb2⟩
            have B2 := Lib.hid (B1K.out.trans (hb2.mono B1K.out.size))
            have X2 := Lib.hid ((hb2.block _ (Array.getElem?_eq_some_iff.1 H1.out).1).trans H1.out)
            have Z2 := Lib.hid ((hb2.block _ (Array.getElem?_eq_some_iff.1 Z1K.out).1).trans Z1K.out)
            have HB2 := Lib.hid hb2
            clear hb2 H1 HTP K
            cases rb with
            | false =>
              have HN : Hid (res = none) := HX.out (fun h => by cases h.1)
              clear HX HY
              go_wp2_with (refine wpList_store_row (by rfl) 47 _ _ (by rfl) w.heap.size verZeroC (by rfl) (by rfl) 47 _ (by exact Z2.out) (by kernel_rfl) (by kernel_rfl) (by kernel_rfl) ?_)
              refine bodyPost_ret (results_cell_tmp rfl _ _ w.heap.size 47 _ _ rfl (setRow_heap _ _ _ _ _ _ Z2.out) Tryz.underlying47 rfl (by kernel_rfl)) rfl ?_
              rw [HN.out]
              exact ⟨.slice none 0 0, rfl, slAt_nil _ _, below_one_row _ _ _ _ _ B2.out (Nat.le_refl _)⟩
            | true =>
              cases hq : (X == s) with
              | false =>
                have HN : Hid (res = none) := HX.out (fun h => by rw [beq_eq_false_iff_ne] at hq; exact hq h.2)
                clear HX HY
                go_wp2_with (refine wpList_store_row (by rfl) 47 _ _ (by rfl) w.heap.size verZeroC (by rfl) (by rfl) 47 _ (by exact Z2.out) (by kernel_rfl) (by kernel_rfl) (by kernel_rfl) ?_)
                refine bodyPost_ret (results_cell_tmp rfl _ _ w.heap.size 47 _ _ rfl (setRow_heap _ _ _ _ _ _ Z2.out) Tryz.underlying47 rfl (by kernel_rfl)) rfl ?_
                rw [HN.out]
                exact ⟨.slice none 0 0, rfl, slAt_nil _ _, below_one_row _ _ _ _ _ B2.out (Nat.le_refl _)⟩
              | true =>
                have HN : Hid (res = some ⟨n1, q2, q3, t4, t5, n6, n7, rs⟩) := HY.out rfl (by simpa using hq)
                clear HX HY
                go_wp2_with (first
                  | (refine wpList_load_row (by rfl) 47 _ (by rfl) gB (by rfl) 47 _ (0, 0) _ (by exact X2.out) Tryz.underlying47 rfl (by kernel_rfl) ?_)
                  | (refine wpList_store_row (by rfl) 47 _ _ (by rfl) w.heap.size _ (by rfl) (by rfl) 47 _ (by exact Z2.out) (by kernel_rfl) (by kernel_rfl) (by kernel_rfl) ?_))
                refine bodyPost_ret (results_cell_tmp rfl _ _ w.heap.size 47 _ _ rfl (setRow_heap _ _ _ _ _ _ Z2.out) Tryz.underlying47 rfl (by kernel_rfl)) rfl ?_
                rw [HN.out]
                exact ⟨_, rfl, HSL.out _ (fun x h1 h2 => (setRow_other _ _ _ _ (by have := HFAR.out; omega)).trans (HB2.out.block x h2)), below_one_row _ _ _ _ _ B2.out (Nat.le_refl _)⟩
    · have HN : Hid (res = none) := hres.out.symm.trans (rVer_no ho (fun h => h6 h.1))
      have h6z : ((l.length : Int) < 9) := by omega
      clear hres ho
      go_enter Tryz.func31, Tryz.ntmps31
      go_wp2_with fail
      refine (HF.out _).mono ?_
      rintro e w1 ⟨v, rfl, hsl, hb1⟩
      have B1 := Lib.hid (BZ.out.trans (hb1.mono BZ.out.size))
      have Z1 := Lib.hid ((hb1.block _ (Array.getElem?_eq_some_iff.1 HZ.out).1).trans HZ.out)
      have HW1 := Lib.hid (Array.getElem?_eq_some_iff.1 Z1.out).1
      clear hb1
      obtain ⟨a, c, rfl, _⟩ := strs_at hsl
      go_wp2_with (refine wpList_store_row (by rfl) 47 _ _ (by rfl) w.heap.size verZeroC (by rfl) (by rfl) 47 _ (by exact Z1.out) (by kernel_rfl) (by kernel_rfl) (by kernel_rfl) ?_)
      refine bodyPost_ret (results_cell_tmp rfl _ _ w.heap.size 47 _ _ rfl (setRow_heap _ _ _ _ _ _ Z1.out) Tryz.underlying47 rfl (by kernel_rfl)) rfl ?_
      rw [HN.out]
      exact ⟨.slice none 0 0, rfl, slAt_nil _ _, below_one_row _ _ _ _ _ B1.out (Nat.le_refl _)⟩

end Go.Proofs.YtajmkkjlhmeolaaGreatDoor
