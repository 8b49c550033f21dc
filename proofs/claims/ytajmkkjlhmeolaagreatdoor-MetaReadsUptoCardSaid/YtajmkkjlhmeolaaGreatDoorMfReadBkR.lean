/-
  storehouseref19.ReadBucket: the walk. (Printed by wip/gen/mfreadl.py.)
-/
import Derived.Test.YtajmkkjlhmeolaaGreatDoorMfRows
import Derived.Test.YtajmkkjlhmeolaaGreatDoorHeldLast
namespace Go.Proofs.YtajmkkjlhmeolaaGreatDoor
open Go.RowKit Go.Lib Go.PlainAid

theorem rlGroups_append : ∀ (a b : List (List UInt8)), a.length % 6 = 0 → rlGroups (a ++ b) = rlGroups a ++ rlGroups b
  | [], b, _ => rfl
  | [_], _, h | [_, _], _, h | [_, _, _], _, h | [_, _, _, _], _, h | [_, _, _, _, _], _, h => by simp at h
  | x1 :: x2 :: x3 :: x4 :: x5 :: x6 :: r, b, h => by
    have ih := rlGroups_append r b (by simp only [List.length_cons] at h; omega)
    show RlV.mk x1 x2 (x3 == [49]) (valueL x4) (valueL x5) (valueL x6) :: rlGroups (r ++ b) = RlV.mk x1 x2 (x3 == [49]) (valueL x4) (valueL x5) (valueL x6) :: rlGroups r ++ rlGroups b
    rw [ih]
    rfl
theorem rlGroups_short : ∀ (a : List (List UInt8)), a.length < 6 → rlGroups a = []
  | [], _ | [_], _ | [_, _], _ | [_, _, _], _ | [_, _, _, _], _ | [_, _, _, _, _], _ => rfl
  | _ :: _ :: _ :: _ :: _ :: _ :: _, h => by simp only [List.length_cons] at h; omega
theorem rlGroups_len : ∀ (a : List (List UInt8)), 6 * (rlGroups a).length ≤ a.length
  | [] | [_] | [_, _] | [_, _, _] | [_, _, _, _] | [_, _, _, _, _] => by simp [rlGroups]
  | x1 :: x2 :: x3 :: x4 :: x5 :: x6 :: r => by
    have ih := rlGroups_len r
    show 6 * (RlV.mk x1 x2 (x3 == [49]) (valueL x4) (valueL x5) (valueL x6) :: rlGroups r).length ≤ _
    simp only [List.length_cons]
    omega
/-- the rules of a list's texts, from the eighth on, below a place -/
def rulesOf (l : List (List UInt8)) (k : Nat) : List RlV := rlGroups ((l.take k).drop 7)
theorem rulesOf_start (l : List (List UInt8)) : rulesOf l 7 = [] := by
  unfold rulesOf
  rw [List.drop_eq_nil_of_le (by rw [List.length_take]; omega)]
  rfl
theorem rulesOf_full (l : List (List UInt8)) : rlGroups (l.drop 7) = rulesOf l l.length := by
  unfold rulesOf
  rw [List.take_length]
theorem rulesOf_len (l : List (List UInt8)) (k : Nat) : 6 * (rulesOf l k).length ≤ l.length := by
  unfold rulesOf
  refine Nat.le_trans (rlGroups_len _) ?_
  simp only [List.length_drop, List.length_take]
  omega
theorem rulesOf_over {l : List (List UInt8)} {k : Nat} (h7 : 7 ≤ k) (hk : k ≤ l.length) (h6 : (k - 7) % 6 = 0) (h : l.length ≤ k + 5) : rulesOf l l.length = rulesOf l k := by
  unfold rulesOf
  have e : (l.take l.length).drop 7 = (l.take k).drop 7 ++ l.drop k := by
    rw [List.take_length]
    conv => lhs; rw [← List.take_append_drop k l]
    rw [List.drop_append_of_le_length (by rw [List.length_take]; omega)]
  rw [e, rlGroups_append _ _ (by simp only [List.length_drop, List.length_take]; rw [Nat.min_eq_left hk]; exact h6), rlGroups_short (l.drop k) (by rw [List.length_drop]; omega), List.append_nil]
theorem rulesOf_snoc {l : List (List UInt8)} {k : Nat} {y0 y1 y2 y3 y4 y5 : List UInt8} (h7 : 7 ≤ k) (h6 : (k - 7) % 6 = 0) (h0 : l[k + 0]? = some y0) (h1 : l[k + 1]? = some y1) (h2 : l[k + 2]? = some y2) (h3 : l[k + 3]? = some y3) (h4 : l[k + 4]? = some y4) (h5 : l[k + 5]? = some y5) :
    rulesOf l (k + 6) = rulesOf l k ++ [⟨y0, y1, y2 == [49], valueL y3, valueL y4, valueL y5⟩] := by
  have hlt := (List.getElem?_eq_some_iff.1 h5).1
  have st : ∀ {j : Nat} {y : List UInt8}, l[j]? = some y → l.take (j + 1) = l.take j ++ [y] := fun {j y} h => by
    obtain ⟨hj, rfl⟩ := List.getElem?_eq_some_iff.1 h
    rw [List.take_append_getElem hj]
  unfold rulesOf
  rw [st h5, st h4, st h3, st h2, st h1, st h0]
  simp only [List.append_assoc, List.cons_append, List.nil_append, Nat.add_zero]
  rw [List.drop_append_of_le_length (by rw [List.length_take]; omega), rlGroups_append _ _ (by simp only [List.length_drop, List.length_take]; rw [Nat.min_eq_left (by omega)]; exact h6)]
  rfl
/-- what the reference's ReadBucket leaves -/
def RBkOut (o : Option BkV) (w : World) (e : Ending) (w' : World) : Prop :=
  ∃ v, e = .returned (.tuple #[.agg ((o.getD bkZ).cells v), .bool o.isSome]) ∧ SlAt w' 6 v (rlRows (o.getD bkZ).rules) ∧ Below w.heap.size w w'

set_option maxHeartbeats 64000000 in
set_option maxRecDepth 100000 in
theorem rReadBk_any (s : List UInt8) (hl : s.length ≤ 4000000000000) (w : World) : Calls Tryz.prog 30 #[.string ⟨s.toArray⟩] w (RBkOut (readBkL s) w) := by
  have HF := Lib.hid (fun W => rFields_any s hl W)
  have HT := Lib.hid (fun (p : BkV) (hb : p.name.length ≤ 140737488351232) v W h => rBkText_any p v W hb h)
  obtain ⟨res, hres⟩ : ∃ r, Hid (readBkL s = r) := ⟨_, rfl⟩
  rw [hres.out]
  obtain ⟨o, ho⟩ : ∃ o, fieldsL s = o := ⟨_, rfl⟩
  rw [ho] at HF
  have HZ : Hid ((w.alloc (.cells bkZeroC 41)).heap[w.heap.size]? = some (.cells bkZeroC 41 (0, 0))) := heap_alloc_new _ _
  have BZ : Hid (Below w.heap.size w (w.alloc (.cells bkZeroC 41))) := below_alloc (Below.refl _ _) (Nat.le_refl _) _
  cases o with
  | none =>
    have HN : Hid (res = none) := hres.out.symm.trans (rBk_none ho)
    clear hres ho
    go_enter Tryz.func30, Tryz.ntmps30
    go_wp2_with fail
    refine (HF.out _).mono ?_
    rintro e w1 ⟨v, rfl, hsl, hb1⟩
    have B1 := Lib.hid (BZ.out.trans (hb1.mono BZ.out.size))
    have Z1 := Lib.hid ((hb1.block _ (Array.getElem?_eq_some_iff.1 HZ.out).1).trans HZ.out)
    have HW1 := Lib.hid (Array.getElem?_eq_some_iff.1 Z1.out).1
    clear hb1
    go_wp2_with (refine wpList_store_row (by rfl) 41 _ _ (by rfl) w.heap.size bkZeroC (by rfl) (by rfl) 41 _ (by exact Z1.out) (by kernel_rfl) (by kernel_rfl) (by kernel_rfl) ?_)
    refine bodyPost_ret (results_cell_tmp rfl _ _ w.heap.size 41 _ _ rfl (setRow_heap _ _ _ _ _ _ Z1.out) Tryz.underlying41 rfl (by kernel_rfl)) rfl ?_
    rw [HN.out]
    exact ⟨.slice none 0 0, rfl, slAt_nil _ _, below_one_row _ _ _ _ _ B1.out (Nat.le_refl _)⟩
  | some l =>
    by_cases h6 : 7 ≤ l.length
    · obtain ⟨t1, ht1⟩ : ∃ t, l[1]? = some t := ⟨_, List.getElem?_eq_getElem (by omega)⟩
      obtain ⟨t2, ht2⟩ : ∃ t, l[2]? = some t := ⟨_, List.getElem?_eq_getElem (by omega)⟩
      obtain ⟨t3, ht3⟩ : ∃ t, l[3]? = some t := ⟨_, List.getElem?_eq_getElem (by omega)⟩
      obtain ⟨t4, ht4⟩ : ∃ t, l[4]? = some t := ⟨_, List.getElem?_eq_getElem (by omega)⟩
      obtain ⟨t5, ht5⟩ : ∃ t, l[5]? = some t := ⟨_, List.getElem?_eq_getElem (by omega)⟩
      have hm : ∀ t, ∀ i : Nat, l[i]? = some t → t.length ≤ 4000000000000 := fun t i h => Nat.le_trans (fieldsL_mem ho t (List.mem_of_getElem? h)) hl
      have hcnt : l.length ≤ 4000000000000 := Nat.le_trans (fieldsL_count ho) hl
      have V3 := Lib.hid (fun W => rValue_any t3 (by have := hm t3 3 ht3; omega) W)
      have V4 := Lib.hid (fun W => rValue_any t4 (by have := hm t4 4 ht4; omega) W)
      have VR : Hid (∀ (i : Nat) (x : List UInt8), l[i]? = some x → ∀ W, Calls Tryz.prog 68 #[.string ⟨x.toArray⟩] W fun e w' => e = .returned (.int .i64 (valueL x)) ∧ W = w') := fun i x hx W => rValue_any x (by have := hm x i hx; omega) W
      obtain ⟨n3, hn3⟩ : ∃ n, valueL t3 = n := ⟨_, rfl⟩
      obtain ⟨n4, hn4⟩ : ∃ n, valueL t4 = n := ⟨_, rfl⟩
      rw [hn3] at V3
      rw [hn4] at V4
      have hnm : t1.length ≤ 140737488351232 := by have := hm t1 1 ht1; omega
      have hc : rBkC l = ⟨t1, t2, t5, n3, n4, rulesOf l l.length⟩ := by
        unfold rBkC
        simp only [List.getD_eq_getElem?_getD, ht1, ht2, ht3, ht4, ht5, Option.getD_some, hn3, hn4]
        rw [rulesOf_full]
      have hY : bkRB ⟨t1, t2, t5, n3, n4, rulesOf l l.length⟩ = true → bkL ⟨t1, t2, t5, n3, n4, rulesOf l l.length⟩ = s → res = some ⟨t1, t2, t5, n3, n4, rulesOf l l.length⟩ := fun h1 h2 => by
        rw [← hc] at h1 h2 ⊢
        exact hres.out.symm.trans (rBk_yes ho h6 ((bkRB_iff _).1 h1) h2)
      have hX : ¬ (bkRB ⟨t1, t2, t5, n3, n4, rulesOf l l.length⟩ = true ∧ bkL ⟨t1, t2, t5, n3, n4, rulesOf l l.length⟩ = s) → res = none := fun h => by
        rw [← hc] at h
        exact hres.out.symm.trans (rBk_no ho (fun h' => h ⟨(bkRB_iff _).2 h'.2.1, h'.2.2⟩))
      have HY := Lib.hid hY
      have HX := Lib.hid hX
      clear hY hX hc hm ho hres hn3 hn4
      have HTP := Lib.hid (HT.out ⟨t1, t2, t5, n3, n4, rulesOf l l.length⟩ hnm)
      obtain ⟨X, hX⟩ : ∃ X, bkL ⟨t1, t2, t5, n3, n4, rulesOf l l.length⟩ = X := ⟨_, rfl⟩
      obtain ⟨rb, hrb⟩ : ∃ x, bkRB ⟨t1, t2, t5, n3, n4, rulesOf l l.length⟩ = x := ⟨_, rfl⟩
      rw [hX, hrb] at HTP HY HX
      clear hX hrb HT
      go_enter Tryz.func30, Tryz.ntmps30
      go_wp2_with fail
      refine (HF.out _).mono ?_
      rintro e w1 ⟨v, rfl, hsl, hb1⟩
      have B1 := Lib.hid (BZ.out.trans (hb1.mono BZ.out.size))
      have Z1 := Lib.hid ((hb1.block _ (Array.getElem?_eq_some_iff.1 HZ.out).1).trans HZ.out)
      have HW1 := Lib.hid (Array.getElem?_eq_some_iff.1 Z1.out).1
      clear hb1
      obtain ⟨g, off, c, rfl, hat⟩ := strs_in (l := l) hsl (by omega)
      have HAT : Hid (∀ i t, l[i]? = some t → w1.cell? ⟨g, off + i, none⟩ = some (.string ⟨t.toArray⟩)) := hat
      have A1 := Lib.hid (hat 1 t1 ht1)
      have A2 := Lib.hid (hat 2 t2 ht2)
      have A3 := Lib.hid (hat 3 t3 ht3)
      have A4 := Lib.hid (hat 4 t4 ht4)
      have A5 := Lib.hid (hat 5 t5 ht5)
      have h9z : ¬ ((l.length : Int) < 7) := by omega
      have hlz : ∀ i : Nat, i < l.length → (i : Int) < (l.length : Int) := fun i h => by omega
      have hi1 : (1 : Int) < (l.length : Int) := by omega
      have hi2 : (2 : Int) < (l.length : Int) := by omega
      have hi3 : (3 : Int) < (l.length : Int) := by omega
      have hi4 : (4 : Int) < (l.length : Int) := by omega
      have hi5 : (5 : Int) < (l.length : Int) := by omega
      have hS1 : Below w1.heap.size w1 w1.drew := (Below.refl _ _).drew
      clear hat hsl HF HZ BZ
      go_upto_region 4 with (fail)
      go_cut [6] (fun s6 wx => ∃ gB : Nat, s6 = .pointer (some ⟨gB, 0, none⟩) ∧ RowsRf w1 wx gB #[.string ⟨t1.toArray⟩, .string ⟨t2.toArray⟩, .string ⟨t5.toArray⟩, .int .i64 n3, .int .i64 n4, .slice none 0 0] 41 104 6 (.slice none 0 0) [])
      case first =>
        refine wp_region_held_drew (S := (fun W : World => Below w1.heap.size w1 W)) (by kernel_rfl) hS1 (fun hS0 => ?_)
        clear hS1
        generalize w1.drew = w0 at hS0 ⊢
        refine wpAnyH_take (i := 0) (oi := ⟨some 22, _, _, _, _, _⟩) (v := ?_) rfl (by kernel_rfl) (by kernel_rfl) (by kernel_rfl) (fun _ _ _ h => h) (Or.inl ⟨by kernel_rfl, ?_⟩) (by assumption) ?_
        rotate_left
        · (intro w hSw; (try dsimp only at hSw); go_simp); all_goals (with_reducible rfl)
        try simp only [Act.put, List.setIfInBounds_toArray, List.set_cons_zero, List.set_cons_succ]
        refine wpAnyH_take (i := 1) (oi := ⟨some 23, _, _, _, _, _⟩) (v := ?_) rfl (by kernel_rfl) (by kernel_rfl) (by kernel_rfl) (fun _ _ _ h => h) (Or.inl ⟨by kernel_rfl, ?_⟩) (by assumption) ?_
        rotate_left
        · (intro w hSw; (try dsimp only at hSw); go_simp); all_goals (with_reducible rfl)
        try simp only [Act.put, List.setIfInBounds_toArray, List.set_cons_zero, List.set_cons_succ]
        refine wpAnyH_take (i := 2) (oi := ⟨some 24, _, _, _, _, _⟩) (v := ?_) rfl (by kernel_rfl) (by kernel_rfl) (by kernel_rfl) (fun _ _ _ h => h) (Or.inl ⟨by kernel_rfl, ?_⟩) (by assumption) ?_
        rotate_left
        · (intro w hSw; (try dsimp only at hSw); (have c1 := cell_later' hSw A1.out; have c2 := cell_later' hSw A2.out; have c3 := cell_later' hSw A3.out; have c4 := cell_later' hSw A4.out; have c5 := cell_later' hSw A5.out); go_simp); all_goals (with_reducible rfl)
        try simp only [Act.put, List.setIfInBounds_toArray, List.set_cons_zero, List.set_cons_succ]
        refine wpAnyH_take (i := 3) (oi := ⟨some 25, _, _, _, _, _⟩) (v := ?_) rfl (by kernel_rfl) (by kernel_rfl) (by kernel_rfl) (fun _ _ _ h => h) (Or.inl ⟨by kernel_rfl, ?_⟩) (by assumption) ?_
        rotate_left
        · (intro w hSw; (try dsimp only at hSw); go_simp); all_goals (with_reducible rfl)
        try simp only [Act.put, List.setIfInBounds_toArray, List.set_cons_zero, List.set_cons_succ]
        refine wpAnyH_take (i := 4) (oi := ⟨some 26, _, _, _, _, _⟩) (v := ?_) rfl (by kernel_rfl) (by kernel_rfl) (by kernel_rfl) (fun _ _ _ h => h) (Or.inl ⟨by kernel_rfl, ?_⟩) (by assumption) ?_
        rotate_left
        · (intro w hSw; (try dsimp only at hSw); go_simp); all_goals (with_reducible rfl)
        try simp only [Act.put, List.setIfInBounds_toArray, List.set_cons_zero, List.set_cons_succ]
        refine wpAnyH_take (i := 5) (oi := ⟨some 27, _, _, _, _, _⟩) (v := ?_) rfl (by kernel_rfl) (by kernel_rfl) (by kernel_rfl) (fun _ _ _ h => h) (Or.inl ⟨by kernel_rfl, ?_⟩) (by assumption) ?_
        rotate_left
        · (intro w hSw; (try dsimp only at hSw); (have c1 := cell_later' hSw A1.out; have c2 := cell_later' hSw A2.out; have c3 := cell_later' hSw A3.out; have c4 := cell_later' hSw A4.out; have c5 := cell_later' hSw A5.out); go_simp); all_goals (with_reducible rfl)
        try simp only [Act.put, List.setIfInBounds_toArray, List.set_cons_zero, List.set_cons_succ]
        refine wpAnyH_take (i := 6) (oi := ⟨some 28, _, _, _, _, _⟩) (v := ?_) rfl (by kernel_rfl) (by kernel_rfl) (by kernel_rfl) (fun _ _ _ h => h) (Or.inl ⟨by kernel_rfl, ?_⟩) (by assumption) ?_
        rotate_left
        · (intro w hSw; (try dsimp only at hSw); go_simp); all_goals (with_reducible rfl)
        try simp only [Act.put, List.setIfInBounds_toArray, List.set_cons_zero, List.set_cons_succ]
        refine wpAnyH_take (i := 7) (oi := ⟨some 29, _, _, _, _, _⟩) (v := ?_) rfl (by kernel_rfl) (by kernel_rfl) (by kernel_rfl) (fun _ _ _ h => h) (Or.inl ⟨by kernel_rfl, ?_⟩) (by assumption) ?_
        rotate_left
        · (intro w hSw; (try dsimp only at hSw); go_simp); all_goals (with_reducible rfl)
        try simp only [Act.put, List.setIfInBounds_toArray, List.set_cons_zero, List.set_cons_succ]
        refine wpAnyH_take (i := 8) (oi := ⟨some 30, _, _, _, _, _⟩) (v := ?_) rfl (by kernel_rfl) (by kernel_rfl) (by kernel_rfl) (fun _ _ _ h => h) (Or.inl ⟨by kernel_rfl, ?_⟩) (by assumption) ?_
        rotate_left
        · (intro w hSw; (try dsimp only at hSw); (have c1 := cell_later' hSw A1.out; have c2 := cell_later' hSw A2.out; have c3 := cell_later' hSw A3.out; have c4 := cell_later' hSw A4.out; have c5 := cell_later' hSw A5.out); go_simp); all_goals (with_reducible rfl)
        try simp only [Act.put, List.setIfInBounds_toArray, List.set_cons_zero, List.set_cons_succ]
        refine wpAnyH_take (i := 10) (oi := ⟨some 32, _, _, _, _, _⟩) (v := ?_) rfl (by kernel_rfl) (by kernel_rfl) (by kernel_rfl) (fun _ _ _ h => h) (Or.inl ⟨by kernel_rfl, ?_⟩) (by assumption) ?_
        rotate_left
        · (intro w hSw; (try dsimp only at hSw); go_simp); all_goals (with_reducible rfl)
        try simp only [Act.put, List.setIfInBounds_toArray, List.set_cons_zero, List.set_cons_succ]
        refine wpAnyH_take (i := 11) (oi := ⟨some 33, _, _, _, _, _⟩) (v := ?_) rfl (by kernel_rfl) (by kernel_rfl) (by kernel_rfl) (fun _ _ _ h => h) (Or.inl ⟨by kernel_rfl, ?_⟩) (by assumption) ?_
        rotate_left
        · (intro w hSw; (try dsimp only at hSw); go_simp); all_goals (with_reducible rfl)
        try simp only [Act.put, List.setIfInBounds_toArray, List.set_cons_zero, List.set_cons_succ]
        refine wpAnyH_take (i := 12) (oi := ⟨some 34, _, _, _, _, _⟩) (v := ?_) rfl (by kernel_rfl) (by kernel_rfl) (by kernel_rfl) (fun _ _ _ h => h) (Or.inl ⟨by kernel_rfl, ?_⟩) (by assumption) ?_
        rotate_left
        · (intro w hSw; (try dsimp only at hSw); (have c1 := cell_later' hSw A1.out; have c2 := cell_later' hSw A2.out; have c3 := cell_later' hSw A3.out; have c4 := cell_later' hSw A4.out; have c5 := cell_later' hSw A5.out); go_simp); all_goals (with_reducible rfl)
        try simp only [Act.put, List.setIfInBounds_toArray, List.set_cons_zero, List.set_cons_succ]
        refine wpAnyH_take (i := 14) (oi := ⟨some 36, _, _, _, _, _⟩) (v := ?_) rfl (by kernel_rfl) (by kernel_rfl) (by kernel_rfl) (fun _ _ _ h => h) (Or.inl ⟨by kernel_rfl, ?_⟩) (by assumption) ?_
        rotate_left
        · (intro w hSw; (try dsimp only at hSw); go_simp); all_goals (with_reducible rfl)
        try simp only [Act.put, List.setIfInBounds_toArray, List.set_cons_zero, List.set_cons_succ]
        refine wpAnyH_take (i := 15) (oi := ⟨some 37, _, _, _, _, _⟩) (v := ?_) rfl (by kernel_rfl) (by kernel_rfl) (by kernel_rfl) (fun _ _ _ h => h) (Or.inl ⟨by kernel_rfl, ?_⟩) (by assumption) ?_
        rotate_left
        · (intro w hSw; (try dsimp only at hSw); go_simp); all_goals (with_reducible rfl)
        try simp only [Act.put, List.setIfInBounds_toArray, List.set_cons_zero, List.set_cons_succ]
        refine wpAnyH_take (i := 16) (oi := ⟨some 38, _, _, _, _, _⟩) (v := ?_) rfl (by kernel_rfl) (by kernel_rfl) (by kernel_rfl) (fun _ _ _ h => h) (Or.inl ⟨by kernel_rfl, ?_⟩) (by assumption) ?_
        rotate_left
        · (intro w hSw; (try dsimp only at hSw); (have c1 := cell_later' hSw A1.out; have c2 := cell_later' hSw A2.out; have c3 := cell_later' hSw A3.out; have c4 := cell_later' hSw A4.out; have c5 := cell_later' hSw A5.out); go_simp); all_goals (with_reducible rfl)
        try simp only [Act.put, List.setIfInBounds_toArray, List.set_cons_zero, List.set_cons_succ]
        refine wpAnyH_ready (rs := [9, 18]) (by kernel_rfl) (by simp) ?_
        refine (AllReadyH.cons (o := ⟨some 31, _, _, _, _, _⟩) rfl (fun K hK => ?_) (AllReadyH.cons (o := ⟨some 6, _, _, _, _, _⟩) rfl (fun K hK => ?_) AllReadyH.nil))
        · rw [if_pos (by kernel_rfl)]
          refine wp_call_go Tryz.func68 (by kernel_rfl) (by kernel_rfl) (by rfl) (V3.out _) (by rfl) ?_
          rintro e w' ⟨rfl, rfl⟩
          refine ⟨_, rfl, ?_⟩
          refine hK.out _ _ (by assumption) (fun _ => ?_)
          clear hK K
          try simp only [Act.put, List.setIfInBounds_toArray, List.set_cons_zero, List.set_cons_succ]
          refine wpAnyH_ready (rs := [13, 18]) (by kernel_rfl) (by simp) ?_
          refine (AllReadyH.cons (o := ⟨some 35, _, _, _, _, _⟩) rfl (fun K hK => ?_) (AllReadyH.cons (o := ⟨some 6, _, _, _, _, _⟩) rfl (fun K hK => ?_) AllReadyH.nil))
          · rw [if_pos (by kernel_rfl)]
            refine wp_call_go Tryz.func68 (by kernel_rfl) (by kernel_rfl) (by rfl) (V4.out _) (by rfl) ?_
            rintro e w' ⟨rfl, rfl⟩
            refine ⟨_, rfl, ?_⟩
            refine hK.out _ _ (by assumption) (fun _ => ?_)
            clear hK K
            try simp only [Act.put, List.setIfInBounds_toArray, List.set_cons_zero, List.set_cons_succ]
            refine wpAnyH_take (i := 17) (oi := ⟨some 39, _, _, _, _, _⟩) (v := ?_) rfl (by kernel_rfl) (by kernel_rfl) (by kernel_rfl) (fun _ _ _ h => h) (Or.inl ⟨by kernel_rfl, ?_⟩) (by assumption) ?_
            rotate_left
            · (intro w hSw; (try dsimp only at hSw); go_simp); all_goals (with_reducible rfl)
            try simp only [Act.put, List.setIfInBounds_toArray, List.set_cons_zero, List.set_cons_succ]
            refine wpAnyH_ready (rs := [18]) (by kernel_rfl) (by simp) ?_
            refine (AllReadyH.cons (o := ⟨some 6, _, _, _, _, _⟩) rfl (fun K hK => ?_) AllReadyH.nil)
            rw [if_pos (by kernel_rfl)]
            go_wp2_with fail
            have hSx : (fun W : World => Below w1.heap.size w1 W) w0 := by assumption
            have hSy : (fun W : World => Below w1.heap.size w1 W) (w0.alloc (.cells bkZeroC 41)) := Below.alloc hSx hSx.size _
            have Xv3 : Hid ((w0.alloc (.cells bkZeroC 41)).heap[w0.heap.size]? = some (.cells bkZeroC 41 (0, 0)) ∧ w1.heap.size ≤ w0.heap.size) := ⟨heap_alloc_new _ _, hSx.size⟩
            refine hK.out _ (w0.alloc (.cells bkZeroC 41)) hSy (fun hSz => ?_)
            clear hSx hSy
            generalize w0.alloc (.cells bkZeroC 41) = v3 at Xv3 hSz ⊢
            generalize w0.heap.size = gB at Xv3 ⊢
            clear hK K
            try simp only [Act.put, List.setIfInBounds_toArray, List.set_cons_zero, List.set_cons_succ]
            refine wpAnyH_ready (rs := [19]) (by kernel_rfl) (by simp) ?_
            refine (AllReadyH.cons (o := ⟨none, _, _, _, _, _⟩) rfl (fun K hK => ?_) AllReadyH.nil)
            rw [if_pos (by kernel_rfl)]
            refine wp_store_row 41 _ _ (by rfl) _ #[.string ⟨t1.toArray⟩, .string ⟨t2.toArray⟩, .string ⟨t5.toArray⟩, .int .i64 n3, .int .i64 n4, .slice none 0 0] (by rfl) (by rfl) 41 bkZeroC (Xv3.out).1 (by kernel_rfl) (by kernel_rfl) (by kernel_rfl) ?_
            have hSx : (fun W : World => Below w1.heap.size w1 W) v3 := by assumption
            have hSy : (fun W : World => Below w1.heap.size w1 W) (v3.setRow gB #[.string ⟨t1.toArray⟩, .string ⟨t2.toArray⟩, .string ⟨t5.toArray⟩, .int .i64 n3, .int .i64 n4, .slice none 0 0]) := below_one_row _ _ _ _ _ hSx (Xv3.out).2
            have KX := Lib.hid (show RowsRf w1 (v3.setRow gB #[.string ⟨t1.toArray⟩, .string ⟨t2.toArray⟩, .string ⟨t5.toArray⟩, .int .i64 n3, .int .i64 n4, .slice none 0 0]) gB #[.string ⟨t1.toArray⟩, .string ⟨t2.toArray⟩, .string ⟨t5.toArray⟩, .int .i64 n3, .int .i64 n4, .slice none 0 0] 41 104 6 (.slice none 0 0) [] from ⟨hSy, setRow_heap _ _ _ _ _ _ (Xv3.out).1, (Xv3.out).2, World.ownsRow_nil _ _ _ _⟩)
            refine hK.out _ _ hSy (fun _ => ?_)
            clear hK K
            try simp only [Act.put]
            refine wpAnyH_done (by kernel_rfl) ?_ _
            go_wp2_with fail
            go_meet
            case rel => exact ⟨gB, rfl, KX.out⟩
          · rw [if_pos (by kernel_rfl)]
            go_wp2_with fail
            have hSx : (fun W : World => Below w1.heap.size w1 W) w0 := by assumption
            have hSy : (fun W : World => Below w1.heap.size w1 W) (w0.alloc (.cells bkZeroC 41)) := Below.alloc hSx hSx.size _
            have Xv5 : Hid ((w0.alloc (.cells bkZeroC 41)).heap[w0.heap.size]? = some (.cells bkZeroC 41 (0, 0)) ∧ w1.heap.size ≤ w0.heap.size) := ⟨heap_alloc_new _ _, hSx.size⟩
            refine hK.out _ (w0.alloc (.cells bkZeroC 41)) hSy (fun hSz => ?_)
            clear hSx hSy
            generalize w0.alloc (.cells bkZeroC 41) = v5 at Xv5 hSz ⊢
            generalize w0.heap.size = gB at Xv5 ⊢
            clear hK K
            try simp only [Act.put, List.setIfInBounds_toArray, List.set_cons_zero, List.set_cons_succ]
            refine wpAnyH_ready (rs := [13]) (by kernel_rfl) (by simp) ?_
            refine (AllReadyH.cons (o := ⟨some 35, _, _, _, _, _⟩) rfl (fun K hK => ?_) AllReadyH.nil)
            rw [if_pos (by kernel_rfl)]
            refine wp_call_go Tryz.func68 (by kernel_rfl) (by kernel_rfl) (by rfl) (V4.out _) (by rfl) ?_
            rintro e w' ⟨rfl, rfl⟩
            refine ⟨_, rfl, ?_⟩
            refine hK.out _ _ (by assumption) (fun _ => ?_)
            clear hK K
            try simp only [Act.put, List.setIfInBounds_toArray, List.set_cons_zero, List.set_cons_succ]
            refine wpAnyH_take (i := 17) (oi := ⟨some 39, _, _, _, _, _⟩) (v := ?_) rfl (by kernel_rfl) (by kernel_rfl) (by kernel_rfl) (fun _ _ _ h => h) (Or.inl ⟨by kernel_rfl, ?_⟩) (by assumption) ?_
            rotate_left
            · (intro w hSw; (try dsimp only at hSw); go_simp); all_goals (with_reducible rfl)
            try simp only [Act.put, List.setIfInBounds_toArray, List.set_cons_zero, List.set_cons_succ]
            refine wpAnyH_ready (rs := [19]) (by kernel_rfl) (by simp) ?_
            refine (AllReadyH.cons (o := ⟨none, _, _, _, _, _⟩) rfl (fun K hK => ?_) AllReadyH.nil)
            rw [if_pos (by kernel_rfl)]
            refine wp_store_row 41 _ _ (by rfl) _ #[.string ⟨t1.toArray⟩, .string ⟨t2.toArray⟩, .string ⟨t5.toArray⟩, .int .i64 n3, .int .i64 n4, .slice none 0 0] (by rfl) (by rfl) 41 bkZeroC (Xv5.out).1 (by kernel_rfl) (by kernel_rfl) (by kernel_rfl) ?_
            have hSx : (fun W : World => Below w1.heap.size w1 W) v5 := by assumption
            have hSy : (fun W : World => Below w1.heap.size w1 W) (v5.setRow gB #[.string ⟨t1.toArray⟩, .string ⟨t2.toArray⟩, .string ⟨t5.toArray⟩, .int .i64 n3, .int .i64 n4, .slice none 0 0]) := below_one_row _ _ _ _ _ hSx (Xv5.out).2
            have KX := Lib.hid (show RowsRf w1 (v5.setRow gB #[.string ⟨t1.toArray⟩, .string ⟨t2.toArray⟩, .string ⟨t5.toArray⟩, .int .i64 n3, .int .i64 n4, .slice none 0 0]) gB #[.string ⟨t1.toArray⟩, .string ⟨t2.toArray⟩, .string ⟨t5.toArray⟩, .int .i64 n3, .int .i64 n4, .slice none 0 0] 41 104 6 (.slice none 0 0) [] from ⟨hSy, setRow_heap _ _ _ _ _ _ (Xv5.out).1, (Xv5.out).2, World.ownsRow_nil _ _ _ _⟩)
            refine hK.out _ _ hSy (fun _ => ?_)
            clear hK K
            try simp only [Act.put]
            refine wpAnyH_done (by kernel_rfl) ?_ _
            go_wp2_with fail
            go_meet
            case rel => exact ⟨gB, rfl, KX.out⟩
        · rw [if_pos (by kernel_rfl)]
          go_wp2_with fail
          have hSx : (fun W : World => Below w1.heap.size w1 W) w0 := by assumption
          have hSy : (fun W : World => Below w1.heap.size w1 W) (w0.alloc (.cells bkZeroC 41)) := Below.alloc hSx hSx.size _
          have Xv8 : Hid ((w0.alloc (.cells bkZeroC 41)).heap[w0.heap.size]? = some (.cells bkZeroC 41 (0, 0)) ∧ w1.heap.size ≤ w0.heap.size) := ⟨heap_alloc_new _ _, hSx.size⟩
          refine hK.out _ (w0.alloc (.cells bkZeroC 41)) hSy (fun hSz => ?_)
          clear hSx hSy
          generalize w0.alloc (.cells bkZeroC 41) = v8 at Xv8 hSz ⊢
          generalize w0.heap.size = gB at Xv8 ⊢
          clear hK K
          try simp only [Act.put, List.setIfInBounds_toArray, List.set_cons_zero, List.set_cons_succ]
          refine wpAnyH_ready (rs := [9]) (by kernel_rfl) (by simp) ?_
          refine (AllReadyH.cons (o := ⟨some 31, _, _, _, _, _⟩) rfl (fun K hK => ?_) AllReadyH.nil)
          rw [if_pos (by kernel_rfl)]
          refine wp_call_go Tryz.func68 (by kernel_rfl) (by kernel_rfl) (by rfl) (V3.out _) (by rfl) ?_
          rintro e w' ⟨rfl, rfl⟩
          refine ⟨_, rfl, ?_⟩
          refine hK.out _ _ (by assumption) (fun _ => ?_)
          clear hK K
          try simp only [Act.put, List.setIfInBounds_toArray, List.set_cons_zero, List.set_cons_succ]
          refine wpAnyH_ready (rs := [13]) (by kernel_rfl) (by simp) ?_
          refine (AllReadyH.cons (o := ⟨some 35, _, _, _, _, _⟩) rfl (fun K hK => ?_) AllReadyH.nil)
          rw [if_pos (by kernel_rfl)]
          refine wp_call_go Tryz.func68 (by kernel_rfl) (by kernel_rfl) (by rfl) (V4.out _) (by rfl) ?_
          rintro e w' ⟨rfl, rfl⟩
          refine ⟨_, rfl, ?_⟩
          refine hK.out _ _ (by assumption) (fun _ => ?_)
          clear hK K
          try simp only [Act.put, List.setIfInBounds_toArray, List.set_cons_zero, List.set_cons_succ]
          refine wpAnyH_take (i := 17) (oi := ⟨some 39, _, _, _, _, _⟩) (v := ?_) rfl (by kernel_rfl) (by kernel_rfl) (by kernel_rfl) (fun _ _ _ h => h) (Or.inl ⟨by kernel_rfl, ?_⟩) (by assumption) ?_
          rotate_left
          · (intro w hSw; (try dsimp only at hSw); go_simp); all_goals (with_reducible rfl)
          try simp only [Act.put, List.setIfInBounds_toArray, List.set_cons_zero, List.set_cons_succ]
          refine wpAnyH_ready (rs := [19]) (by kernel_rfl) (by simp) ?_
          refine (AllReadyH.cons (o := ⟨none, _, _, _, _, _⟩) rfl (fun K hK => ?_) AllReadyH.nil)
          rw [if_pos (by kernel_rfl)]
          refine wp_store_row 41 _ _ (by rfl) _ #[.string ⟨t1.toArray⟩, .string ⟨t2.toArray⟩, .string ⟨t5.toArray⟩, .int .i64 n3, .int .i64 n4, .slice none 0 0] (by rfl) (by rfl) 41 bkZeroC (Xv8.out).1 (by kernel_rfl) (by kernel_rfl) (by kernel_rfl) ?_
          have hSx : (fun W : World => Below w1.heap.size w1 W) v8 := by assumption
          have hSy : (fun W : World => Below w1.heap.size w1 W) (v8.setRow gB #[.string ⟨t1.toArray⟩, .string ⟨t2.toArray⟩, .string ⟨t5.toArray⟩, .int .i64 n3, .int .i64 n4, .slice none 0 0]) := below_one_row _ _ _ _ _ hSx (Xv8.out).2
          have KX := Lib.hid (show RowsRf w1 (v8.setRow gB #[.string ⟨t1.toArray⟩, .string ⟨t2.toArray⟩, .string ⟨t5.toArray⟩, .int .i64 n3, .int .i64 n4, .slice none 0 0]) gB #[.string ⟨t1.toArray⟩, .string ⟨t2.toArray⟩, .string ⟨t5.toArray⟩, .int .i64 n3, .int .i64 n4, .slice none 0 0] 41 104 6 (.slice none 0 0) [] from ⟨hSy, setRow_heap _ _ _ _ _ _ (Xv8.out).1, (Xv8.out).2, World.ownsRow_nil _ _ _ _⟩)
          refine hK.out _ _ hSy (fun _ => ?_)
          clear hK K
          try simp only [Act.put]
          refine wpAnyH_done (by kernel_rfl) ?_ _
          go_wp2_with fail
          go_meet
          case rel => exact ⟨gB, rfl, KX.out⟩
      case rest =>
        obtain ⟨gB, rfl, hK0⟩ := hcut
        obtain ⟨wx, rfl⟩ : ∃ wx : World, wx = wc := ⟨_, rfl⟩
        have KX := Lib.hid hK0
        clear hK0 hS1 V3 V4 A1 A2 A3 A4 A5
        obtain ⟨i0, hi, hz0, hz1, hz2⟩ := info_rule
        go_wp2
        go_loopg [7] l.length (fun gg s7 wr => ∃ (k : Nat) (v : Value), 7 ≤ k ∧ k ≤ l.length ∧ (k - 7) % 6 = 0 ∧ l.length - k ≤ gg ∧ s7 = .int .i64 k ∧ Hid (RowsRf w1 wr gB #[.string ⟨t1.toArray⟩, .string ⟨t2.toArray⟩, .string ⟨t5.toArray⟩, .int .i64 n3, .int .i64 n4, v] 41 104 6 v (rlRows (rulesOf l k))))
        case atStart => exact ⟨7, .slice none 0 0, by omega, by omega, by omega, by omega, rfl, by rw [rulesOf_start]; exact KX.out⟩
        case round =>
          obtain ⟨k, v, hk9, hkN, hk6, hgg, rfl, Kwr⟩ := hrel
          clear KX
          by_cases hlt : k + 5 < l.length
          · have hltz : (k : Int) < (l.length : Int) := by omega
            have hltz5 : (k : Int) + 5 < (l.length : Int) := by omega
            obtain ⟨y0, hy0⟩ : ∃ y, l[k + 0]? = some y := ⟨_, List.getElem?_eq_getElem (by omega)⟩
            obtain ⟨y1, hy1⟩ : ∃ y, l[k + 1]? = some y := ⟨_, List.getElem?_eq_getElem (by omega)⟩
            obtain ⟨y2, hy2⟩ : ∃ y, l[k + 2]? = some y := ⟨_, List.getElem?_eq_getElem (by omega)⟩
            obtain ⟨y3, hy3⟩ : ∃ y, l[k + 3]? = some y := ⟨_, List.getElem?_eq_getElem (by omega)⟩
            obtain ⟨y4, hy4⟩ : ∃ y, l[k + 4]? = some y := ⟨_, List.getElem?_eq_getElem (by omega)⟩
            obtain ⟨y5, hy5⟩ : ∃ y, l[k + 5]? = some y := ⟨_, List.getElem?_eq_getElem (by omega)⟩
            have E0 := Lib.hid (HAT.out k y0 (by simpa using hy0))
            have E1 := Lib.hid (HAT.out (k + 1) y1 hy1)
            have E2 := Lib.hid (HAT.out (k + 2) y2 hy2)
            have E3 := Lib.hid (HAT.out (k + 3) y3 hy3)
            have E4 := Lib.hid (HAT.out (k + 4) y4 hy4)
            have E5 := Lib.hid (HAT.out (k + 5) y5 hy5)
            have hza1 : (0 : Int) ≤ (k : Int) + 1 := by omega
            have hl1 : (k : Int) + 1 < (l.length : Int) := by omega
            have hn1 : ((k : Int) + 1).toNat = k + 1 := by omega
            have hw1 : IntKind.i64.wrap ((k : Int) + 1) = (k : Int) + 1 := by rw [IntKind.wrap_i64]; omega
            have hza2 : (0 : Int) ≤ (k : Int) + 2 := by omega
            have hl2 : (k : Int) + 2 < (l.length : Int) := by omega
            have hn2 : ((k : Int) + 2).toNat = k + 2 := by omega
            have hw2 : IntKind.i64.wrap ((k : Int) + 2) = (k : Int) + 2 := by rw [IntKind.wrap_i64]; omega
            have hza3 : (0 : Int) ≤ (k : Int) + 3 := by omega
            have hl3 : (k : Int) + 3 < (l.length : Int) := by omega
            have hn3 : ((k : Int) + 3).toNat = k + 3 := by omega
            have hw3 : IntKind.i64.wrap ((k : Int) + 3) = (k : Int) + 3 := by rw [IntKind.wrap_i64]; omega
            have hza4 : (0 : Int) ≤ (k : Int) + 4 := by omega
            have hl4 : (k : Int) + 4 < (l.length : Int) := by omega
            have hn4 : ((k : Int) + 4).toNat = k + 4 := by omega
            have hw4 : IntKind.i64.wrap ((k : Int) + 4) = (k : Int) + 4 := by rw [IntKind.wrap_i64]; omega
            have hza5 : (0 : Int) ≤ (k : Int) + 5 := by omega
            have hl5 : (k : Int) + 5 < (l.length : Int) := by omega
            have hn5 : ((k : Int) + 5).toNat = k + 5 := by omega
            have hw5 : IntKind.i64.wrap ((k : Int) + 5) = (k : Int) + 5 := by rw [IntKind.wrap_i64]; omega
            have VX1 := Lib.hid (fun W => VR.out (k + 3) y3 hy3 W)
            have VX2 := Lib.hid (fun W => VR.out (k + 4) y4 hy4 W)
            have VX3 := Lib.hid (fun W => VR.out (k + 5) y5 hy5 W)
            have HS := Lib.hid (rulesOf_snoc hk9 hk6 hy0 hy1 hy2 hy3 hy4 hy5)
            obtain ⟨x2, hx2⟩ : ∃ x, (y2 == [49]) = x := ⟨_, rfl⟩
            obtain ⟨x3, hx3⟩ : ∃ x, valueL y3 = x := ⟨_, rfl⟩
            obtain ⟨x4, hx4⟩ : ∃ x, valueL y4 = x := ⟨_, rfl⟩
            obtain ⟨x5, hx5⟩ : ∃ x, valueL y5 = x := ⟨_, rfl⟩
            rw [hx3] at VX1
            rw [hx4] at VX2
            rw [hx5] at VX3
            rw [hx2, hx3, hx4, hx5] at HS
            obtain ⟨rows, hrows⟩ : ∃ rs, rlRows (rulesOf l k) = rs := ⟨_, rfl⟩
            have hrl : 6 * rows.length ≤ l.length := by rw [← hrows, rlRows_len]; have := rulesOf_len l k; omega
            rw [hrows] at Kwr
            have HRW := Lib.hid hrows
            clear hy0 hy1 hy2 hy3 hy4 hy5 hx3 hx4 hx5 hrows
            go_wp2
            refine wp_region_heldL_drew (S := (fun W : World => Below w1.heap.size w1 W ∧ W.cell? ⟨gB, 5, none⟩ = some v)) 39 (by kernel_rfl) (by exact ⟨(Kwr.out.later (Below.refl _ _).drew).below, cell_of_heap (Kwr.out.later (Below.refl _ _).drew).box⟩) (fun hS0 => ?_)
            have Kw0 := Lib.hid (Kwr.out.later (Below.refl _ _).drew)
            generalize wr.drew = w0 at Kw0 hS0 ⊢
            clear Kwr
            refine wpAnyL_take (i := 0) (oi := ⟨some 47, _, _, _, _, _⟩) (v := ?_) rfl (by kernel_rfl) (by kernel_rfl) (by kernel_rfl) (by kernel_rfl) (fun _ _ _ h => h) (Or.inl ⟨by kernel_rfl, ?_⟩) (by assumption) ?_
            rotate_left
            · (intro w hSw; (try dsimp only at hSw); go_simp); all_goals (with_reducible rfl)
            try simp only [Act.put, List.setIfInBounds_toArray, List.set_cons_zero, List.set_cons_succ]
            refine wpAnyL_take (i := 1) (oi := ⟨some 48, _, _, _, _, _⟩) (v := ?_) rfl (by kernel_rfl) (by kernel_rfl) (by kernel_rfl) (by kernel_rfl) (fun _ _ _ h => h) (Or.inl ⟨by kernel_rfl, ?_⟩) (by assumption) ?_
            rotate_left
            · (intro w hSw; (try dsimp only at hSw); (have e0 := cell_later' hSw.1 E0.out; have e1 := cell_later' hSw.1 E1.out; have e2 := cell_later' hSw.1 E2.out; have e3 := cell_later' hSw.1 E3.out; have e4 := cell_later' hSw.1 E4.out; have e5 := cell_later' hSw.1 E5.out; have ev := hSw.2; clear hSw); go_simp); all_goals (with_reducible rfl)
            try simp only [Act.put, List.setIfInBounds_toArray, List.set_cons_zero, List.set_cons_succ]
            refine wpAnyL_take (i := 2) (oi := ⟨some 49, _, _, _, _, _⟩) (v := ?_) rfl (by kernel_rfl) (by kernel_rfl) (by kernel_rfl) (by kernel_rfl) (fun _ _ _ h => h) (Or.inl ⟨by kernel_rfl, ?_⟩) (by assumption) ?_
            rotate_left
            · (intro w hSw; (try dsimp only at hSw); go_simp); all_goals (with_reducible rfl)
            try simp only [Act.put, List.setIfInBounds_toArray, List.set_cons_zero, List.set_cons_succ]
            refine wpAnyL_take (i := 3) (oi := ⟨some 50, _, _, _, _, _⟩) (v := ?_) rfl (by kernel_rfl) (by kernel_rfl) (by kernel_rfl) (by kernel_rfl) (fun _ _ _ h => h) (Or.inl ⟨by kernel_rfl, ?_⟩) (by assumption) ?_
            rotate_left
            · (intro w hSw; (try dsimp only at hSw); go_simp); all_goals (with_reducible rfl)
            try simp only [Act.put, List.setIfInBounds_toArray, List.set_cons_zero, List.set_cons_succ]
            refine wpAnyL_take (i := 4) (oi := ⟨some 51, _, _, _, _, _⟩) (v := ?_) rfl (by kernel_rfl) (by kernel_rfl) (by kernel_rfl) (by kernel_rfl) (fun _ _ _ h => h) (Or.inl ⟨by kernel_rfl, ?_⟩) (by assumption) ?_
            rotate_left
            · (intro w hSw; (try dsimp only at hSw); go_simp); all_goals (with_reducible rfl)
            try simp only [Act.put, List.setIfInBounds_toArray, List.set_cons_zero, List.set_cons_succ]
            refine wpAnyL_take (i := 5) (oi := ⟨some 52, _, _, _, _, _⟩) (v := ?_) rfl (by kernel_rfl) (by kernel_rfl) (by kernel_rfl) (by kernel_rfl) (fun _ _ _ h => h) (Or.inl ⟨by kernel_rfl, ?_⟩) (by assumption) ?_
            rotate_left
            · (intro w hSw; (try dsimp only at hSw); (have e0 := cell_later' hSw.1 E0.out; have e1 := cell_later' hSw.1 E1.out; have e2 := cell_later' hSw.1 E2.out; have e3 := cell_later' hSw.1 E3.out; have e4 := cell_later' hSw.1 E4.out; have e5 := cell_later' hSw.1 E5.out; have ev := hSw.2; clear hSw); go_simp); all_goals (with_reducible rfl)
            try simp only [Act.put, List.setIfInBounds_toArray, List.set_cons_zero, List.set_cons_succ]
            refine wpAnyL_take (i := 6) (oi := ⟨some 53, _, _, _, _, _⟩) (v := ?_) rfl (by kernel_rfl) (by kernel_rfl) (by kernel_rfl) (by kernel_rfl) (fun _ _ _ h => h) (Or.inl ⟨by kernel_rfl, ?_⟩) (by assumption) ?_
            rotate_left
            · (intro w hSw; (try dsimp only at hSw); go_simp); all_goals (with_reducible rfl)
            try simp only [Act.put, List.setIfInBounds_toArray, List.set_cons_zero, List.set_cons_succ]
            refine wpAnyL_take (i := 7) (oi := ⟨some 54, _, _, _, _, _⟩) (v := ?_) rfl (by kernel_rfl) (by kernel_rfl) (by kernel_rfl) (by kernel_rfl) (fun _ _ _ h => h) (Or.inl ⟨by kernel_rfl, ?_⟩) (by assumption) ?_
            rotate_left
            · (intro w hSw; (try dsimp only at hSw); go_simp); all_goals (with_reducible rfl)
            try simp only [Act.put, List.setIfInBounds_toArray, List.set_cons_zero, List.set_cons_succ]
            refine wpAnyL_take (i := 8) (oi := ⟨some 55, _, _, _, _, _⟩) (v := ?_) rfl (by kernel_rfl) (by kernel_rfl) (by kernel_rfl) (by kernel_rfl) (fun _ _ _ h => h) (Or.inl ⟨by kernel_rfl, ?_⟩) (by assumption) ?_
            rotate_left
            · (intro w hSw; (try dsimp only at hSw); go_simp); all_goals (with_reducible rfl)
            try simp only [Act.put, List.setIfInBounds_toArray, List.set_cons_zero, List.set_cons_succ]
            refine wpAnyL_take (i := 9) (oi := ⟨some 56, _, _, _, _, _⟩) (v := ?_) rfl (by kernel_rfl) (by kernel_rfl) (by kernel_rfl) (by kernel_rfl) (fun _ _ _ h => h) (Or.inl ⟨by kernel_rfl, ?_⟩) (by assumption) ?_
            rotate_left
            · (intro w hSw; (try dsimp only at hSw); go_simp); all_goals (with_reducible rfl)
            try simp only [Act.put, List.setIfInBounds_toArray, List.set_cons_zero, List.set_cons_succ]
            refine wpAnyL_take (i := 10) (oi := ⟨some 57, _, _, _, _, _⟩) (v := ?_) rfl (by kernel_rfl) (by kernel_rfl) (by kernel_rfl) (by kernel_rfl) (fun _ _ _ h => h) (Or.inl ⟨by kernel_rfl, ?_⟩) (by assumption) ?_
            rotate_left
            · (intro w hSw; (try dsimp only at hSw); (have e0 := cell_later' hSw.1 E0.out; have e1 := cell_later' hSw.1 E1.out; have e2 := cell_later' hSw.1 E2.out; have e3 := cell_later' hSw.1 E3.out; have e4 := cell_later' hSw.1 E4.out; have e5 := cell_later' hSw.1 E5.out; have ev := hSw.2; clear hSw); go_simp); all_goals (with_reducible rfl)
            try simp only [Act.put, List.setIfInBounds_toArray, List.set_cons_zero, List.set_cons_succ]
            refine wpAnyL_take (i := 11) (oi := ⟨some 58, _, _, _, _, _⟩) (v := ?_) rfl (by kernel_rfl) (by kernel_rfl) (by kernel_rfl) (by kernel_rfl) (fun _ _ _ h => h) (Or.inl ⟨by kernel_rfl, ?_⟩) (by assumption) ?_
            rotate_left
            · (intro w hSw; (try dsimp only at hSw); go_simp); all_goals (with_reducible rfl)
            try simp only [Act.put, List.setIfInBounds_toArray, List.set_cons_zero, List.set_cons_succ]
            refine wpAnyL_take (i := 12) (oi := ⟨some 59, _, _, _, _, _⟩) (v := ?_) rfl (by kernel_rfl) (by kernel_rfl) (by kernel_rfl) (by kernel_rfl) (fun _ _ _ h => h) (Or.inl ⟨by kernel_rfl, ?_⟩) (by assumption) ?_
            rotate_left
            · (intro w hSw; (try dsimp only at hSw); go_simp); all_goals (with_reducible rfl)
            try simp only [Act.put, List.setIfInBounds_toArray, List.set_cons_zero, List.set_cons_succ]
            refine wpAnyL_take (i := 13) (oi := ⟨some 60, _, _, _, _, _⟩) (v := ?_) rfl (by kernel_rfl) (by kernel_rfl) (by kernel_rfl) (by kernel_rfl) (fun _ _ _ h => h) (Or.inl ⟨by kernel_rfl, ?_⟩) (by assumption) ?_
            rotate_left
            · (intro w hSw; (try dsimp only at hSw); go_simp); all_goals (with_reducible rfl)
            try simp only [Act.put, List.setIfInBounds_toArray, List.set_cons_zero, List.set_cons_succ]
            refine wpAnyL_take (i := 14) (oi := ⟨some 61, _, _, _, _, _⟩) (v := ?_) rfl (by kernel_rfl) (by kernel_rfl) (by kernel_rfl) (by kernel_rfl) (fun _ _ _ h => h) (Or.inl ⟨by kernel_rfl, ?_⟩) (by assumption) ?_
            rotate_left
            · (intro w hSw; (try dsimp only at hSw); go_simp); all_goals (with_reducible rfl)
            try simp only [Act.put, List.setIfInBounds_toArray, List.set_cons_zero, List.set_cons_succ]
            refine wpAnyL_take (i := 15) (oi := ⟨some 62, _, _, _, _, _⟩) (v := ?_) rfl (by kernel_rfl) (by kernel_rfl) (by kernel_rfl) (by kernel_rfl) (fun _ _ _ h => h) (Or.inl ⟨by kernel_rfl, ?_⟩) (by assumption) ?_
            rotate_left
            · (intro w hSw; (try dsimp only at hSw); (have e0 := cell_later' hSw.1 E0.out; have e1 := cell_later' hSw.1 E1.out; have e2 := cell_later' hSw.1 E2.out; have e3 := cell_later' hSw.1 E3.out; have e4 := cell_later' hSw.1 E4.out; have e5 := cell_later' hSw.1 E5.out; have ev := hSw.2; clear hSw); go_simp); all_goals (with_reducible rfl)
            try simp only [Act.put, List.setIfInBounds_toArray, List.set_cons_zero, List.set_cons_succ]
            refine wpAnyL_take (i := 16) (oi := ⟨some 63, _, _, _, _, _⟩) (v := ?_) rfl (by kernel_rfl) (by kernel_rfl) (by kernel_rfl) (by kernel_rfl) (fun _ _ _ h => h) (Or.inl ⟨by kernel_rfl, ?_⟩) (by assumption) ?_
            rotate_left
            · (intro w hSw; (try dsimp only at hSw); go_simp); all_goals (with_reducible rfl)
            try simp only [Act.put, List.setIfInBounds_toArray, List.set_cons_zero, List.set_cons_succ]
            refine wpAnyL_take (i := 17) (oi := ⟨some 64, _, _, _, _, _⟩) (v := ?_) rfl (by kernel_rfl) (by kernel_rfl) (by kernel_rfl) (by kernel_rfl) (fun _ _ _ h => h) (Or.inl ⟨by kernel_rfl, ?_⟩) (by assumption) ?_
            rotate_left
            · (intro w hSw; (try dsimp only at hSw); go_simp); all_goals (with_reducible rfl)
            try simp only [Act.put, List.setIfInBounds_toArray, List.set_cons_zero, List.set_cons_succ]
            refine wpAnyL_take (i := 18) (oi := ⟨some 65, _, _, _, _, _⟩) (v := ?_) rfl (by kernel_rfl) (by kernel_rfl) (by kernel_rfl) (by kernel_rfl) (fun _ _ _ h => h) (Or.inl ⟨by kernel_rfl, ?_⟩) (by assumption) ?_
            rotate_left
            · (intro w hSw; (try dsimp only at hSw); go_simp); all_goals (with_reducible rfl)
            try simp only [Act.put, List.setIfInBounds_toArray, List.set_cons_zero, List.set_cons_succ]
            refine wpAnyL_take (i := 19) (oi := ⟨some 66, _, _, _, _, _⟩) (v := ?_) rfl (by kernel_rfl) (by kernel_rfl) (by kernel_rfl) (by kernel_rfl) (fun _ _ _ h => h) (Or.inl ⟨by kernel_rfl, ?_⟩) (by assumption) ?_
            rotate_left
            · (intro w hSw; (try dsimp only at hSw); go_simp); all_goals (with_reducible rfl)
            try simp only [Act.put, List.setIfInBounds_toArray, List.set_cons_zero, List.set_cons_succ]
            refine wpAnyL_take (i := 20) (oi := ⟨some 67, _, _, _, _, _⟩) (v := ?_) rfl (by kernel_rfl) (by kernel_rfl) (by kernel_rfl) (by kernel_rfl) (fun _ _ _ h => h) (Or.inl ⟨by kernel_rfl, ?_⟩) (by assumption) ?_
            rotate_left
            · (intro w hSw; (try dsimp only at hSw); go_simp); all_goals (with_reducible rfl)
            try simp only [Act.put, List.setIfInBounds_toArray, List.set_cons_zero, List.set_cons_succ]
            refine wpAnyL_take (i := 21) (oi := ⟨some 68, _, _, _, _, _⟩) (v := ?_) rfl (by kernel_rfl) (by kernel_rfl) (by kernel_rfl) (by kernel_rfl) (fun _ _ _ h => h) (Or.inl ⟨by kernel_rfl, ?_⟩) (by assumption) ?_
            rotate_left
            · (intro w hSw; (try dsimp only at hSw); (have e0 := cell_later' hSw.1 E0.out; have e1 := cell_later' hSw.1 E1.out; have e2 := cell_later' hSw.1 E2.out; have e3 := cell_later' hSw.1 E3.out; have e4 := cell_later' hSw.1 E4.out; have e5 := cell_later' hSw.1 E5.out; have ev := hSw.2; clear hSw); go_simp); all_goals (with_reducible rfl)
            try simp only [Act.put, List.setIfInBounds_toArray, List.set_cons_zero, List.set_cons_succ]
            refine wpAnyL_take (i := 23) (oi := ⟨some 70, _, _, _, _, _⟩) (v := ?_) rfl (by kernel_rfl) (by kernel_rfl) (by kernel_rfl) (by kernel_rfl) (fun _ _ _ h => h) (Or.inl ⟨by kernel_rfl, ?_⟩) (by assumption) ?_
            rotate_left
            · (intro w hSw; (try dsimp only at hSw); go_simp); all_goals (with_reducible rfl)
            try simp only [Act.put, List.setIfInBounds_toArray, List.set_cons_zero, List.set_cons_succ]
            refine wpAnyL_take (i := 24) (oi := ⟨some 71, _, _, _, _, _⟩) (v := ?_) rfl (by kernel_rfl) (by kernel_rfl) (by kernel_rfl) (by kernel_rfl) (fun _ _ _ h => h) (Or.inl ⟨by kernel_rfl, ?_⟩) (by assumption) ?_
            rotate_left
            · (intro w hSw; (try dsimp only at hSw); go_simp); all_goals (with_reducible rfl)
            try simp only [Act.put, List.setIfInBounds_toArray, List.set_cons_zero, List.set_cons_succ]
            refine wpAnyL_take (i := 25) (oi := ⟨some 72, _, _, _, _, _⟩) (v := ?_) rfl (by kernel_rfl) (by kernel_rfl) (by kernel_rfl) (by kernel_rfl) (fun _ _ _ h => h) (Or.inl ⟨by kernel_rfl, ?_⟩) (by assumption) ?_
            rotate_left
            · (intro w hSw; (try dsimp only at hSw); go_simp); all_goals (with_reducible rfl)
            try simp only [Act.put, List.setIfInBounds_toArray, List.set_cons_zero, List.set_cons_succ]
            refine wpAnyL_take (i := 26) (oi := ⟨some 73, _, _, _, _, _⟩) (v := ?_) rfl (by kernel_rfl) (by kernel_rfl) (by kernel_rfl) (by kernel_rfl) (fun _ _ _ h => h) (Or.inl ⟨by kernel_rfl, ?_⟩) (by assumption) ?_
            rotate_left
            · (intro w hSw; (try dsimp only at hSw); go_simp); all_goals (with_reducible rfl)
            try simp only [Act.put, List.setIfInBounds_toArray, List.set_cons_zero, List.set_cons_succ]
            refine wpAnyL_take (i := 27) (oi := ⟨some 74, _, _, _, _, _⟩) (v := ?_) rfl (by kernel_rfl) (by kernel_rfl) (by kernel_rfl) (by kernel_rfl) (fun _ _ _ h => h) (Or.inl ⟨by kernel_rfl, ?_⟩) (by assumption) ?_
            rotate_left
            · (intro w hSw; (try dsimp only at hSw); (have e0 := cell_later' hSw.1 E0.out; have e1 := cell_later' hSw.1 E1.out; have e2 := cell_later' hSw.1 E2.out; have e3 := cell_later' hSw.1 E3.out; have e4 := cell_later' hSw.1 E4.out; have e5 := cell_later' hSw.1 E5.out; have ev := hSw.2; clear hSw); go_simp); all_goals (with_reducible rfl)
            try simp only [Act.put, List.setIfInBounds_toArray, List.set_cons_zero, List.set_cons_succ]
            refine wpAnyL_take (i := 29) (oi := ⟨some 76, _, _, _, _, _⟩) (v := ?_) rfl (by kernel_rfl) (by kernel_rfl) (by kernel_rfl) (by kernel_rfl) (fun _ _ _ h => h) (Or.inl ⟨by kernel_rfl, ?_⟩) (by assumption) ?_
            rotate_left
            · (intro w hSw; (try dsimp only at hSw); go_simp); all_goals (with_reducible rfl)
            try simp only [Act.put, List.setIfInBounds_toArray, List.set_cons_zero, List.set_cons_succ]
            refine wpAnyL_take (i := 30) (oi := ⟨some 77, _, _, _, _, _⟩) (v := ?_) rfl (by kernel_rfl) (by kernel_rfl) (by kernel_rfl) (by kernel_rfl) (fun _ _ _ h => h) (Or.inl ⟨by kernel_rfl, ?_⟩) (by assumption) ?_
            rotate_left
            · (intro w hSw; (try dsimp only at hSw); go_simp); all_goals (with_reducible rfl)
            try simp only [Act.put, List.setIfInBounds_toArray, List.set_cons_zero, List.set_cons_succ]
            refine wpAnyL_take (i := 31) (oi := ⟨some 78, _, _, _, _, _⟩) (v := ?_) rfl (by kernel_rfl) (by kernel_rfl) (by kernel_rfl) (by kernel_rfl) (fun _ _ _ h => h) (Or.inl ⟨by kernel_rfl, ?_⟩) (by assumption) ?_
            rotate_left
            · (intro w hSw; (try dsimp only at hSw); go_simp); all_goals (with_reducible rfl)
            try simp only [Act.put, List.setIfInBounds_toArray, List.set_cons_zero, List.set_cons_succ]
            refine wpAnyL_take (i := 32) (oi := ⟨some 79, _, _, _, _, _⟩) (v := ?_) rfl (by kernel_rfl) (by kernel_rfl) (by kernel_rfl) (by kernel_rfl) (fun _ _ _ h => h) (Or.inl ⟨by kernel_rfl, ?_⟩) (by assumption) ?_
            rotate_left
            · (intro w hSw; (try dsimp only at hSw); go_simp); all_goals (with_reducible rfl)
            try simp only [Act.put, List.setIfInBounds_toArray, List.set_cons_zero, List.set_cons_succ]
            refine wpAnyL_take (i := 33) (oi := ⟨some 80, _, _, _, _, _⟩) (v := ?_) rfl (by kernel_rfl) (by kernel_rfl) (by kernel_rfl) (by kernel_rfl) (fun _ _ _ h => h) (Or.inl ⟨by kernel_rfl, ?_⟩) (by assumption) ?_
            rotate_left
            · (intro w hSw; (try dsimp only at hSw); (have e0 := cell_later' hSw.1 E0.out; have e1 := cell_later' hSw.1 E1.out; have e2 := cell_later' hSw.1 E2.out; have e3 := cell_later' hSw.1 E3.out; have e4 := cell_later' hSw.1 E4.out; have e5 := cell_later' hSw.1 E5.out; have ev := hSw.2; clear hSw); go_simp); all_goals (with_reducible rfl)
            try simp only [Act.put, List.setIfInBounds_toArray, List.set_cons_zero, List.set_cons_succ]
            refine wpAnyL_ready (rs := [22]) (by kernel_rfl) (by simp) ?_
            refine (AllReadyL.cons (o := ⟨some 69, _, _, _, _, _⟩) rfl (fun K hK => ?_) AllReadyL.nil)
            rw [if_pos (by kernel_rfl)]
            refine wp_call_go Tryz.func68 (by kernel_rfl) (by kernel_rfl) (by rfl) (VX1.out _) (by rfl) ?_
            rintro e w' ⟨rfl, rfl⟩
            refine ⟨_, rfl, ?_⟩
            refine hK.out _ _ (by assumption) (fun _ => ?_)
            clear hK K
            try simp only [Act.put, List.setIfInBounds_toArray, List.set_cons_zero, List.set_cons_succ]
            refine wpAnyL_ready (rs := [28]) (by kernel_rfl) (by simp) ?_
            refine (AllReadyL.cons (o := ⟨some 75, _, _, _, _, _⟩) rfl (fun K hK => ?_) AllReadyL.nil)
            rw [if_pos (by kernel_rfl)]
            refine wp_call_go Tryz.func68 (by kernel_rfl) (by kernel_rfl) (by rfl) (VX2.out _) (by rfl) ?_
            rintro e w' ⟨rfl, rfl⟩
            refine ⟨_, rfl, ?_⟩
            refine hK.out _ _ (by assumption) (fun _ => ?_)
            clear hK K
            try simp only [Act.put, List.setIfInBounds_toArray, List.set_cons_zero, List.set_cons_succ]
            refine wpAnyL_ready (rs := [34]) (by kernel_rfl) (by simp) ?_
            refine (AllReadyL.cons (o := ⟨some 81, _, _, _, _, _⟩) rfl (fun K hK => ?_) AllReadyL.nil)
            rw [if_pos (by kernel_rfl)]
            refine wp_call_go Tryz.func68 (by kernel_rfl) (by kernel_rfl) (by rfl) (VX3.out _) (by rfl) ?_
            rintro e w' ⟨rfl, rfl⟩
            refine ⟨_, rfl, ?_⟩
            refine hK.out _ _ (by assumption) (fun _ => ?_)
            clear hK K
            try simp only [Act.put, List.setIfInBounds_toArray, List.set_cons_zero, List.set_cons_succ]
            refine wpAnyL_take (i := 35) (oi := ⟨some 82, _, _, _, _, _⟩) (v := ?_) rfl (by kernel_rfl) (by kernel_rfl) (by kernel_rfl) (by kernel_rfl) (fun _ _ _ h => h) (Or.inl ⟨by kernel_rfl, ?_⟩) (by assumption) ?_
            rotate_left
            · (intro w hSw; (try dsimp only at hSw); go_simp); all_goals (with_reducible rfl)
            try simp only [Act.put, List.setIfInBounds_toArray, List.set_cons_zero, List.set_cons_succ]
            refine wpAnyL_ready (rs := [36]) (by kernel_rfl) (by simp) ?_
            refine (AllReadyL.cons (o := ⟨some 83, _, _, _, _, _⟩) rfl (fun K hK => ?_) AllReadyL.nil)
            rw [if_pos (by kernel_rfl)]
            go_wp2_with fail
            have Kz4 := Lib.hid (Kw0.out.later (below_alloc (Below.refl _ _) (Nat.le_refl _) (.cells #[.string ⟨y0.toArray⟩, .string ⟨y1.toArray⟩, .bool x2, .int .i64 x3, .int .i64 x4, .int .i64 x5] 104)))
            have HBz4 := Lib.hid (heap_alloc_new w0 (.cells #[.string ⟨y0.toArray⟩, .string ⟨y1.toArray⟩, .bool x2, .int .i64 x3, .int .i64 x4, .int .i64 x5] 104))
            refine hK.out _ (w0.alloc (.cells #[.string ⟨y0.toArray⟩, .string ⟨y1.toArray⟩, .bool x2, .int .i64 x3, .int .i64 x4, .int .i64 x5] 104)) ⟨Kz4.out.below, cell_of_heap Kz4.out.box⟩ (fun hSz => ?_)
            generalize w0.alloc (.cells #[.string ⟨y0.toArray⟩, .string ⟨y1.toArray⟩, .bool x2, .int .i64 x3, .int .i64 x4, .int .i64 x5] 104) = z4 at Kz4 HBz4 hSz ⊢
            generalize w0.heap.size = gA at HBz4 ⊢
            clear Kw0
            clear hK K
            try simp only [Act.put, List.setIfInBounds_toArray, List.set_cons_zero, List.set_cons_succ]
            refine wpAnyL_ready (rs := [37]) (by kernel_rfl) (by simp) ?_
            refine (AllReadyL.cons (o := ⟨some 84, _, _, _, _, _⟩) rfl (fun K hK => ?_) AllReadyL.nil)
            rw [if_pos (by kernel_rfl)]
            refine wp_append_lies _ _ _ _ (by rfl) (gB + 1) 104 i0 _ 6 64 Tryz.underlying39 hi hz0 hz1 hz2 rfl (by decide) v rows.length rows.flatten (by rfl) Kz4.out.own ⟨gA, 0, none⟩ 1 1 [.string ⟨y0.toArray⟩, .string ⟨y1.toArray⟩, .bool x2, .int .i64 x3, .int .i64 x4, .int .i64 x5] (by rfl) (by rfl) (fun j u hj => by rw [Addr.add_lit, cell_of_heap HBz4.out]; simpa using hj) (by simp [Value.oneCell']) (by decide) (by simp only [maxLen]; omega) (by omega) (by have := Kz4.out.lt; omega) _ rfl ?_
            intro g2 cap z5 hown hgr hat hlt3
            have KP := Lib.hid (Kz4.out.pushRow (new := #[.string ⟨t1.toArray⟩, .string ⟨t2.toArray⟩, .string ⟨t5.toArray⟩, .int .i64 n3, .int .i64 n4, .slice (some ⟨g2, 0, none⟩) (rows.length + 1) cap]) hown hgr)
            have XA := Lib.hid (Kz4.out.grown hgr)
            clear hown hgr hat hlt3
            refine hK.out _ _ ⟨XA.out.2, cell_of_heap XA.out.1⟩ (fun _ => ?_)
            clear hK K
            try simp only [Act.put, List.setIfInBounds_toArray, List.set_cons_zero, List.set_cons_succ]
            refine wpAnyL_take (i := 38) (oi := ⟨some 85, _, _, _, _, _⟩) (v := ?_) rfl (by kernel_rfl) (by kernel_rfl) (by kernel_rfl) (by kernel_rfl) (fun _ _ _ h => h) (Or.inl ⟨by kernel_rfl, ?_⟩) (by assumption) ?_
            rotate_left
            · (intro w hSw; (try dsimp only at hSw); go_simp); all_goals (with_reducible rfl)
            try simp only [Act.put, List.setIfInBounds_toArray, List.set_cons_zero, List.set_cons_succ]
            refine wpAnyL_ready (rs := [39]) (by kernel_rfl) (by simp) ?_
            refine (AllReadyL.final (o := ⟨none, _, _, _, _, _⟩) rfl (fun K hK => ?_))
            rw [if_pos (by kernel_rfl)]
            refine wp_store_cell 39 _ _ (by rfl) gB 5 (.slice (some ⟨g2, 0, none⟩) (rows.length + 1) cap) (by rfl) (by rfl) (by rfl) _ 41 XA.out.1 (by simp) (by kernel_rfl) ?_
            refine hK.out _ (z5.setRow gB #[.string ⟨t1.toArray⟩, .string ⟨t2.toArray⟩, .string ⟨t5.toArray⟩, .int .i64 n3, .int .i64 n4, .slice (some ⟨g2, 0, none⟩) (rows.length + 1) cap]) ?_
            clear hK K
            try simp only [Act.put]
            refine wpAnyL_done (by kernel_rfl) ?_ _
            go_wp2
            go_roundg (l.length - (k + 6))
            case measure => omega
            case rel =>
              refine ⟨k + 6, .slice (some ⟨g2, 0, none⟩) (rows.length + 1) cap, by omega, by omega, by omega, Nat.le_refl _, by go_num, ?_⟩
              have e2 : rlRows (rulesOf l (k + 6)) = rows ++ [[.string ⟨y0.toArray⟩, .string ⟨y1.toArray⟩, .bool x2, .int .i64 x3, .int .i64 x4, .int .i64 x5]] := by rw [HS.out, ← HRW.out]; simp [rlRows, RlV.cells]
              rw [e2]
              exact KP.out
          · have hltz : ¬ ((k : Int) + 5 < (l.length : Int)) := by omega
            have hov := rulesOf_over hk9 hkN hk6 (by omega)
            rw [hov] at HY HTP
            obtain ⟨rs, hrs⟩ : ∃ rs, rulesOf l k = rs := ⟨_, rfl⟩
            have hrl : rs.length ≤ l.length := by rw [← hrs]; have := rulesOf_len l k; omega
            rw [hrs] at Kwr HY HTP
            clear hrs hov
            have K := Kwr
            clear Kwr
            have B1K : Hid (Below w.heap.size w wr) := B1.out.trans (K.out.below.mono (by have := HW1.out; omega))
            have Z1K := Lib.hid ((K.out.below.block _ HW1.out).trans Z1.out)
            have HSL : Hid (∀ W : World, (∀ x, gB + 1 ≤ x → x < wr.heap.size → W.heap[x]? = wr.heap[x]?) → SlAt W 6 v (rlRows rs)) := fun W hW => own_slAt (rows := rlRows rs) (own_kept K.out.own hW) (rlRows_six rs) (by rw [rlRows_len]; omega)
            obtain ⟨a, ca, hv⟩ := K.out.form
            rw [rlRows_len] at hv
            subst hv
            have H1 := Lib.hid K.out.box
            have HS0 := Lib.hid (HSL.out _ (fun _ _ _ => rfl))
            have HFAR : Hid (w.heap.size < gB) := Nat.lt_of_lt_of_le HW1.out K.out.far
            go_wp2_with (refine wpList_load_row (by rfl) 41 _ (by rfl) gB (by rfl) 41 _ (0, 0) _ (by exact H1.out) Tryz.underlying41 rfl (by kernel_rfl) ?_)
            refine (HTP.out _ wr HS0.out).mono ?_
            rintro e w2 ⟨rfl, hb2⟩
            have B2 := Lib.hid (B1K.out.trans (hb2.mono B1K.out.size))
            have X2 := Lib.hid ((hb2.block _ (Array.getElem?_eq_some_iff.1 H1.out).1).trans H1.out)
            have Z2 := Lib.hid ((hb2.block _ (Array.getElem?_eq_some_iff.1 Z1K.out).1).trans Z1K.out)
            have HB2 := Lib.hid hb2
            clear hb2 H1 HTP K
            cases rb with
            | false =>
              have HN : Hid (res = none) := HX.out (fun h => by cases h.1)
              clear HX HY
              go_wp2_with (refine wpList_store_row (by rfl) 41 _ _ (by rfl) w.heap.size bkZeroC (by rfl) (by rfl) 41 _ (by exact Z2.out) (by kernel_rfl) (by kernel_rfl) (by kernel_rfl) ?_)
              refine bodyPost_ret (results_cell_tmp rfl _ _ w.heap.size 41 _ _ rfl (setRow_heap _ _ _ _ _ _ Z2.out) Tryz.underlying41 rfl (by kernel_rfl)) rfl ?_
              rw [HN.out]
              exact ⟨.slice none 0 0, rfl, slAt_nil _ _, below_one_row _ _ _ _ _ B2.out (Nat.le_refl _)⟩
            | true =>
              cases hq : (X == s) with
              | false =>
                have HN : Hid (res = none) := HX.out (fun h => by rw [beq_eq_false_iff_ne] at hq; exact hq h.2)
                clear HX HY
                go_wp2_with (refine wpList_store_row (by rfl) 41 _ _ (by rfl) w.heap.size bkZeroC (by rfl) (by rfl) 41 _ (by exact Z2.out) (by kernel_rfl) (by kernel_rfl) (by kernel_rfl) ?_)
                refine bodyPost_ret (results_cell_tmp rfl _ _ w.heap.size 41 _ _ rfl (setRow_heap _ _ _ _ _ _ Z2.out) Tryz.underlying41 rfl (by kernel_rfl)) rfl ?_
                rw [HN.out]
                exact ⟨.slice none 0 0, rfl, slAt_nil _ _, below_one_row _ _ _ _ _ B2.out (Nat.le_refl _)⟩
              | true =>
                have HN : Hid (res = some ⟨t1, t2, t5, n3, n4, rs⟩) := HY.out rfl (by simpa using hq)
                clear HX HY
                go_wp2_with (first
                  | (refine wpList_load_row (by rfl) 41 _ (by rfl) gB (by rfl) 41 _ (0, 0) _ (by exact X2.out) Tryz.underlying41 rfl (by kernel_rfl) ?_)
                  | (refine wpList_store_row (by rfl) 41 _ _ (by rfl) w.heap.size _ (by rfl) (by rfl) 41 _ (by exact Z2.out) (by kernel_rfl) (by kernel_rfl) (by kernel_rfl) ?_))
                refine bodyPost_ret (results_cell_tmp rfl _ _ w.heap.size 41 _ _ rfl (setRow_heap _ _ _ _ _ _ Z2.out) Tryz.underlying41 rfl (by kernel_rfl)) rfl ?_
                rw [HN.out]
                exact ⟨_, rfl, HSL.out _ (fun x h1 h2 => (setRow_other _ _ _ _ (by have := HFAR.out; omega)).trans (HB2.out.block x h2)), below_one_row _ _ _ _ _ B2.out (Nat.le_refl _)⟩
    · have HN : Hid (res = none) := hres.out.symm.trans (rBk_no ho (fun h => h6 h.1))
      have h6z : ((l.length : Int) < 7) := by omega
      clear hres ho
      go_enter Tryz.func30, Tryz.ntmps30
      go_wp2_with fail
      refine (HF.out _).mono ?_
      rintro e w1 ⟨v, rfl, hsl, hb1⟩
      have B1 := Lib.hid (BZ.out.trans (hb1.mono BZ.out.size))
      have Z1 := Lib.hid ((hb1.block _ (Array.getElem?_eq_some_iff.1 HZ.out).1).trans HZ.out)
      have HW1 := Lib.hid (Array.getElem?_eq_some_iff.1 Z1.out).1
      clear hb1
      obtain ⟨a, c, rfl, _⟩ := strs_at hsl
      go_wp2_with (refine wpList_store_row (by rfl) 41 _ _ (by rfl) w.heap.size bkZeroC (by rfl) (by rfl) 41 _ (by exact Z1.out) (by kernel_rfl) (by kernel_rfl) (by kernel_rfl) ?_)
      refine bodyPost_ret (results_cell_tmp rfl _ _ w.heap.size 41 _ _ rfl (setRow_heap _ _ _ _ _ _ Z1.out) Tryz.underlying41 rfl (by kernel_rfl)) rfl ?_
      rw [HN.out]
      exact ⟨.slice none 0 0, rfl, slAt_nil _ _, below_one_row _ _ _ _ _ B1.out (Nat.le_refl _)⟩

end Go.Proofs.YtajmkkjlhmeolaaGreatDoor
