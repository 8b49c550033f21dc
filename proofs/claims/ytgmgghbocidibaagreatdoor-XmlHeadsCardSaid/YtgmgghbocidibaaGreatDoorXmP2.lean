/-
  XML, plain: the reading's steps: what they leave is shorter; the reader's bound is none.
-/
import Derived.Test.YtgmgghbocidibaaGreatDoorXmP
namespace Go.Proofs.YtgmgghbocidibaaGreatDoor

theorem bind_ok {α β : Type} {x : R α} {f : α → R β} {y : β} (h : (x >>= f) = .ok y) : ∃ a, x = .ok a ∧ f a = .ok y := by
  cases x with
  | error e => cases h
  | ok a => exact ⟨a, rfl, h⟩
theorem ok_bind {α β : Type} {x : R α} {f : α → R β} {a : α} (h : x = .ok a) : (x >>= f) = f a := by rw [h]; rfl
theorem skip_len (r : Bs) : (skipL r).length ≤ r.length := (List.dropWhile_sublist _).length_le
theorem want_ok : ∀ {p r r1 : Bs}, wantL p r = .ok r1 → r = p ++ r1
  | [], r, r1, h => by simp [wantL] at h; simpa using h
  | b :: p, [], r1, h => by simp [wantL] at h
  | b :: p, c :: r, r1, h => by
    unfold wantL at h
    split at h
    · rename_i e
      rw [want_ok h, e]; rfl
    · cases h
theorem want_pre : ∀ (p r : Bs), wantL p (p ++ r) = .ok r
  | [], r => rfl
  | b :: p, r => by simp [wantL, want_pre p r]
theorem want_len {p r r1 : Bs} (h : wantL p r = .ok r1) : r1.length + p.length = r.length := by
  rw [want_ok h, List.length_append]; omega
theorem name_ok {also : Bool} {r n r1 : Bs} (h : nameL also r = .ok (n, r1)) : r = n ++ r1 ∧ (∃ b, n.head? = some b ∧ firstX b = true) ∧ n.length ≤ 100 ∧ ∀ b ∈ n, nameX also b = true := by
  unfold nameL at h
  cases r with
  | nil => cases h
  | cons b l =>
    simp only at h
    split at h
    · rename_i hf
      split at h
      · cases h
      · rename_i hl
        injection h with h
        injection h with h1 h2
        subst h1 h2
        refine ⟨(List.takeWhile_append_dropWhile).symm, ⟨b, ?_, hf⟩, by omega, fun x hx => List.all_eq_true.1 List.all_takeWhile x hx⟩
        have : nameX also b = true := by unfold nameX moreX; rw [hf]; rfl
        rw [List.takeWhile_cons, if_pos this]
        rfl
    · cases h
theorem name_len {also : Bool} {r n r1 : Bs} (h : nameL also r = .ok (n, r1)) : r1.length + n.length = r.length ∧ 1 ≤ n.length := by
  obtain ⟨h1, ⟨b, hb, _⟩, _⟩ := name_ok h
  refine ⟨by rw [h1, List.length_append]; omega, ?_⟩
  cases n with
  | nil => cases hb
  | cons => simp
theorem attr_len {r r1 : Bs} (h : attrL r = .ok r1) : r1.length < r.length := by
  unfold attrL at h
  obtain ⟨⟨n, r2⟩, hn, h⟩ := bind_ok h
  obtain ⟨r3, hw, h⟩ := bind_ok h
  have h1 := name_len hn
  have h2 := want_len hw
  cases r3 with
  | nil => cases h
  | cons q r4 =>
    simp only at h
    split at h
    · have h4 := want_len h
      have h5 := (List.dropWhile_sublist (fun b => decide (b ≠ 60) && decide (b ≠ q)) (l := r4)).length_le
      simp only [List.length_cons, List.length_nil] at h2 h4
      omega
    · cases h
theorem attrs_len : ∀ {f : Nat} {r r1 : Bs}, attrsL f r = .ok r1 → r1.length ≤ r.length
  | 0, r, r1, h => by injection h with h; rw [h]; exact Nat.le_refl _
  | f + 1, r, r1, h => by
    unfold attrsL at h
    simp only at h
    split at h
    · injection h with h
      rw [← h]; exact skip_len r
    · split at h
      · cases h
      · obtain ⟨r2, ha, h⟩ := bind_ok h
        have h1 := attr_len ha
        have h2 := attrs_len h
        have h3 := skip_len r
        omega
theorem attrs_head : ∀ {f : Nat} {r r1 : Bs}, r.length < f → attrsL f r = .ok r1 → r1.head? = some 47 ∨ r1.head? = some 62
  | 0, r, r1, hf, h => by omega
  | f + 1, r, r1, hf, h => by
    unfold attrsL at h
    simp only at h
    split at h
    · rename_i hh
      injection h with h
      rw [← h]; exact hh
    · split at h
      · cases h
      · obtain ⟨r2, ha, h⟩ := bind_ok h
        have h1 := attr_len ha
        have h3 := skip_len r
        exact attrs_head (by omega) h
/-- the names that may be -/
def nameOK (n : Bs) : Prop := (∃ b, n.head? = some b ∧ firstX b = true) ∧ n.length ≤ 100 ∧ ∀ b ∈ n, moreX b = true
theorem begin_ok {a : Nat} {r n r1 : Bs} {m : Bool} (h : beginL a r = .ok (n, m, r1)) : r1.length + n.length + 2 + (if m then 0 else 1) ≤ r.length ∧ r.head? = some 60 ∧ nameOK n ∧ a ≠ 20 := by
  unfold beginL at h
  split at h
  · cases h
  · rename_i h20
    obtain ⟨r1', hw, h⟩ := bind_ok h
    obtain ⟨⟨n', r2⟩, hn, h⟩ := bind_ok h
    obtain ⟨r3, ha, h⟩ := bind_ok h
    have hr := want_ok hw
    have hh : r.head? = some 60 := by rw [hr]; rfl
    obtain ⟨h1, h2, h3, h4⟩ := name_ok hn
    have hm : ∀ b ∈ n', moreX b = true := fun b hb => by
      have := h4 b hb
      unfold nameX at this
      simpa using this
    have hl1 := want_len hw
    have hl2 := name_len hn
    have hl3 := attrs_len ha
    have hh3 := attrs_head (Nat.lt_succ_self _) ha
    have hpos : 1 ≤ r3.length := by
      cases r3 with
      | nil => rcases hh3 with e | e <;> cases e
      | cons => simp
    simp only [List.length_cons, List.length_nil] at hl1
    have h20' : a ≠ 20 := fun e => h20 ⟨e, hh⟩
    split at h
    · obtain ⟨r5, hw2, h⟩ := bind_ok h
      injection h with h
      simp only [Prod.mk.injEq] at h
      obtain ⟨e1, e2, e3⟩ := h
      subst e1 e2 e3
      have := want_len hw2
      simp only [List.length_drop, List.length_cons, List.length_nil] at this
      exact ⟨by simp only [Bool.false_eq_true, if_false]; omega, hh, ⟨h2, h3, hm⟩, h20'⟩
    · injection h with h
      simp only [Prod.mk.injEq] at h
      obtain ⟨e1, e2, e3⟩ := h
      subst e1 e2 e3
      refine ⟨?_, hh, ⟨h2, h3, hm⟩, h20'⟩
      simp only [if_true, List.length_drop]
      omega
theorem names_len : ∀ x ∈ namesX, 4 ≤ x.1.length ∧ x.2.length = 1 ∧ x.1.length ≤ 6 := by decide
theorem pre_len {p r : Bs} (h : p.isPrefixOf r = true) : p.length ≤ r.length := (List.isPrefixOf_iff_prefix.1 h).length_le
theorem num_len {hd r t r1 : Bs} {base most : Nat} (h : numL hd base most r = .inl (t, r1)) : r1.length + hd.length + 2 ≤ r.length := by
  unfold numL at h
  split at h
  · rename_i hp
    have hpl := pre_len hp
    simp only at h
    split at h
    · cases h
    · split at h
      · rename_i h1
        injection h with h
        simp only [Prod.mk.injEq] at h
        obtain ⟨_, e2⟩ := h
        have h2 := (List.getElem?_eq_some_iff.1 h1.2.1).1
        rw [← e2]
        simp only [List.length_drop] at h2 ⊢
        omega
      · cases h
  · cases h
theorem ref_len {r t r1 : Bs} (h : refL r = .ok (t, r1)) : r1.length + 4 ≤ r.length := by
  unfold refL at h
  split at h
  · rename_i x hx
    injection h with h
    simp only [Prod.mk.injEq] at h
    obtain ⟨_, e2⟩ := h
    have h1 := List.find?_some hx
    have h2 := names_len x (List.mem_of_find?_eq_some hx)
    have h3 := pre_len h1
    rw [← e2, List.length_drop]
    omega
  · simp only at h
    split at h
    · rename_i x hx
      injection h with h
      subst h
      have := num_len hx
      simpa using this
    · split at h
      · rename_i x hx
        injection h with h
        subst h
        have := num_len hx
        simp only [List.length_cons, List.length_nil] at this
        omega
      · cases h
theorem step_len {o : Opn} {around ps : List Opn} {r r1 : Bs} (h : stepL o around r = .ok (ps, r1)) : r1.length < r.length := by
  unfold stepL at h
  split at h
  · cases h
  · rename_i hne
    have hpos : 0 < r.length := List.length_pos_iff.2 hne
    split at h
    · split at h
      · cases h
      · split at h
        · obtain ⟨r1', hw, h⟩ := bind_ok h
          obtain ⟨r2, hw2, h⟩ := bind_ok h
          injection h with h
          simp only [Prod.mk.injEq] at h
          obtain ⟨_, e2⟩ := h
          subst e2
          have h1 := want_len hw
          have h2 := want_len hw2
          have h3 := skip_len r1'
          simp only [List.length_drop, List.length_cons, List.length_nil] at h1 h2
          omega
        · split at h
          · cases h
          · obtain ⟨⟨n, m, r2⟩, hb, h⟩ := bind_ok h
            injection h with h
            simp only [Prod.mk.injEq] at h
            obtain ⟨_, e2⟩ := h
            subst e2
            have := (begin_ok hb).1
            omega
    · simp only at h
      split at h
      · cases h
      · split at h
        · obtain ⟨⟨t, r2⟩, hb, h⟩ := bind_ok h
          injection h with h
          simp only [Prod.mk.injEq] at h
          obtain ⟨_, e2⟩ := h
          subst e2
          have := ref_len hb
          omega
        · split at h
          · cases h
          · injection h with h
            simp only [Prod.mk.injEq] at h
            obtain ⟨_, e2⟩ := h
            have := Lib.decodeL_width r
            rw [← e2, List.length_drop]
            omega
/-- the bound on a run is none -/
theorem run_more : ∀ (n : Nat) (r : Bs) (ps : List Opn) (f : Nat), r.length ≤ n → r.length < f → runL f ps r = runL (r.length + 1) ps r
  | n, r, [], f, hn, hf => by
    cases f with
    | zero => omega
    | succ f => rfl
  | n, r, o :: around, f, hn, hf => by
    cases f with
    | zero => omega
    | succ f =>
      simp only [runL]
      cases hs : stepL o around r with
      | error e => rfl
      | ok x =>
        obtain ⟨ps, r1⟩ := x
        have hl := step_len hs
        simp only [bind, Except.bind]
        split
        · rfl
        · cases n with
          | zero => omega
          | succ n => rw [run_more n r1 ps f (by omega) (by omega), run_more n r1 ps r.length (by omega) (by omega)]
def run (ps : List Opn) (r : Bs) : R (Tree × Bs) := runL (r.length + 1) ps r
/-- one step of a run -/
theorem run_step {o : Opn} {around ps : List Opn} {r r1 : Bs} (h : stepL o around r = .ok (ps, r1)) (hn : ¬ (around = [] ∧ [60, 47].isPrefixOf r = true)) : run (o :: around) r = run ps r1 := by
  unfold run
  simp only [runL, h, bind, Except.bind]
  rw [if_neg hn]
  exact run_more r1.length r1 ps _ (Nat.le_refl _) (step_len h)
theorem run_fail {o : Opn} {around : List Opn} {r : Bs} {e : Int × Nat} (h : stepL o around r = .error e) : run (o :: around) r = .error e := by
  unfold run
  simp only [runL, h, bind, Except.bind]
/-- the last step of a run -/
def topElem (o : Opn) (ps : List Opn) : Tree := match ps with | o :: _ => o.elem | [] => o.elem
theorem run_last {o : Opn} {ps : List Opn} {r r1 : Bs} (h : stepL o [] r = .ok (ps, r1)) (hp : [60, 47].isPrefixOf r = true) : run [o] r = .ok (topElem o ps, r1) := by
  unfold run
  simp only [runL, h, bind, Except.bind]
  rw [if_pos ⟨trivial, hp⟩]
  cases ps <;> rfl
end Go.Proofs.YtgmgghbocidibaaGreatDoor
