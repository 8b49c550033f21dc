/-
  SEVERAL SMALL TEXTS IN ONE.
-/
import Derived.Test.YtgmgghbocidibaaGreatDoorSm1
/-
  XML, plain: the reading's steps: what they leave is shorter; the reader's bound is none.
-/
namespace Go.Proofs.YtgmgghbocidibaaGreatDoor

theorem bind_ok {α β : Type} {x : R α} {f : α → R β} {y : β} (h : (x >>= f) = .ok y) : ∃ a, x = .ok a ∧ f a = .ok y := by
  cases x with
  | error e => cases h
  | ok a => exact ⟨a, rfl, h⟩
theorem ok_bind {α β : Type} {x : R α} {f : α → R β} {a : α} (h : x = .ok a) : (x >>= f) = f a := by rw [h]; rfl
theorem skip_len (r : Bs) : (skipL r).length ≤ r.length := (List.dropWhile_sublist _).length_le
theorem want_ok : ∀ {p r r1 : Bs}, wantL p r = .ok r1 → r = p ++ r1
  | [], r, r1, h => by simp [wantL] at h; simpa using h
  | b :: p, [], r1, h => by simp [wantL] at h
  | b :: p, c :: r, r1, h => by
    unfold wantL at h
    split at h
    · rename_i e
      rw [want_ok h, e]; rfl
    · cases h
theorem want_pre : ∀ (p r : Bs), wantL p (p ++ r) = .ok r
  | [], r => rfl
  | b :: p, r => by simp [wantL, want_pre p r]
theorem want_len {p r r1 : Bs} (h : wantL p r = .ok r1) : r1.length + p.length = r.length := by
  rw [want_ok h, List.length_append]; omega
theorem name_ok {also : Bool} {r n r1 : Bs} (h : nameL also r = .ok (n, r1)) : r = n ++ r1 ∧ (∃ b, n.head? = some b ∧ firstX b = true) ∧ n.length ≤ 100 ∧ ∀ b ∈ n, nameX also b = true := by
  unfold nameL at h
  cases r with
  | nil => cases h
  | cons b l =>
    simp only at h
    split at h
    · rename_i hf
      split at h
      · cases h
      · rename_i hl
        injection h with h
        injection h with h1 h2
        subst h1 h2
        refine ⟨(List.takeWhile_append_dropWhile).symm, ⟨b, ?_, hf⟩, by omega, fun x hx => List.all_eq_true.1 List.all_takeWhile x hx⟩
        have : nameX also b = true := by unfold nameX moreX; rw [hf]; rfl
        rw [List.takeWhile_cons, if_pos this]
        rfl
    · cases h
theorem name_len {also : Bool} {r n r1 : Bs} (h : nameL also r = .ok (n, r1)) : r1.length + n.length = r.length ∧ 1 ≤ n.length := by
  obtain ⟨h1, ⟨b, hb, _⟩, _⟩ := name_ok h
  refine ⟨by rw [h1, List.length_append]; omega, ?_⟩
  cases n with
  | nil => cases hb
  | cons => simp
theorem attr_len {r r1 : Bs} (h : attrL r = .ok r1) : r1.length < r.length := by
  unfold attrL at h
  obtain ⟨⟨n, r2⟩, hn, h⟩ := bind_ok h
  obtain ⟨r3, hw, h⟩ := bind_ok h
  have h1 := name_len hn
  have h2 := want_len hw
  cases r3 with
  | nil => cases h
  | cons q r4 =>
    simp only at h
    split at h
    · have h4 := want_len h
      have h5 := (List.dropWhile_sublist (fun b => decide (b ≠ 60) && decide (b ≠ q)) (l := r4)).length_le
      simp only [List.length_cons, List.length_nil] at h2 h4
      omega
    · cases h
theorem attrs_len : ∀ {f : Nat} {r r1 : Bs}, attrsL f r = .ok r1 → r1.length ≤ r.length
  | 0, r, r1, h => by injection h with h; rw [h]; exact Nat.le_refl _
  | f + 1, r, r1, h => by
    unfold attrsL at h
    simp only at h
    split at h
    · injection h with h
      rw [← h]; exact skip_len r
    · split at h
      · cases h
      · obtain ⟨r2, ha, h⟩ := bind_ok h
        have h1 := attr_len ha
        have h2 := attrs_len h
        have h3 := skip_len r
        omega
theorem attrs_head : ∀ {f : Nat} {r r1 : Bs}, r.length < f → attrsL f r = .ok r1 → r1.head? = some 47 ∨ r1.head? = some 62
  | 0, r, r1, hf, h => by omega
  | f + 1, r, r1, hf, h => by
    unfold attrsL at h
    simp only at h
    split at h
    · rename_i hh
      injection h with h
      rw [← h]; exact hh
    · split at h
      · cases h
      · obtain ⟨r2, ha, h⟩ := bind_ok h
        have h1 := attr_len ha
        have h3 := skip_len r
        exact attrs_head (by omega) h
/-- the names that may be -/
def nameOK (n : Bs) : Prop := (∃ b, n.head? = some b ∧ firstX b = true) ∧ n.length ≤ 100 ∧ ∀ b ∈ n, moreX b = true
theorem begin_ok {a : Nat} {r n r1 : Bs} {m : Bool} (h : beginL a r = .ok (n, m, r1)) : r1.length + n.length + 2 + (if m then 0 else 1) ≤ r.length ∧ r.head? = some 60 ∧ nameOK n ∧ a ≠ 20 := by
  unfold beginL at h
  split at h
  · cases h
  · rename_i h20
    obtain ⟨r1', hw, h⟩ := bind_ok h
    obtain ⟨⟨n', r2⟩, hn, h⟩ := bind_ok h
    obtain ⟨r3, ha, h⟩ := bind_ok h
    have hr := want_ok hw
    have hh : r.head? = some 60 := by rw [hr]; rfl
    obtain ⟨h1, h2, h3, h4⟩ := name_ok hn
    have hm : ∀ b ∈ n', moreX b = true := fun b hb => by
      have := h4 b hb
      unfold nameX at this
      simpa using this
    have hl1 := want_len hw
    have hl2 := name_len hn
    have hl3 := attrs_len ha
    have hh3 := attrs_head (Nat.lt_succ_self _) ha
    have hpos : 1 ≤ r3.length := by
      cases r3 with
      | nil => rcases hh3 with e | e <;> cases e
      | cons => simp
    simp only [List.length_cons, List.length_nil] at hl1
    have h20' : a ≠ 20 := fun e => h20 ⟨e, hh⟩
    split at h
    · obtain ⟨r5, hw2, h⟩ := bind_ok h
      injection h with h
      simp only [Prod.mk.injEq] at h
      obtain ⟨e1, e2, e3⟩ := h
      subst e1 e2 e3
      have := want_len hw2
      simp only [List.length_drop, List.length_cons, List.length_nil] at this
      exact ⟨by simp only [Bool.false_eq_true, if_false]; omega, hh, ⟨h2, h3, hm⟩, h20'⟩
    · injection h with h
      simp only [Prod.mk.injEq] at h
      obtain ⟨e1, e2, e3⟩ := h
      subst e1 e2 e3
      refine ⟨?_, hh, ⟨h2, h3, hm⟩, h20'⟩
      simp only [if_true, List.length_drop]
      omega
theorem names_len : ∀ x ∈ namesX, 4 ≤ x.1.length ∧ x.2.length = 1 ∧ x.1.length ≤ 6 := by decide
theorem pre_len {p r : Bs} (h : p.isPrefixOf r = true) : p.length ≤ r.length := (List.isPrefixOf_iff_prefix.1 h).length_le
theorem num_len {hd r t r1 : Bs} {base most : Nat} (h : numL hd base most r = .inl (t, r1)) : r1.length + hd.length + 2 ≤ r.length := by
  unfold numL at h
  split at h
  · rename_i hp
    have hpl := pre_len hp
    simp only at h
    split at h
    · cases h
    · split at h
      · rename_i h1
        injection h with h
        simp only [Prod.mk.injEq] at h
        obtain ⟨_, e2⟩ := h
        have h2 := (List.getElem?_eq_some_iff.1 h1.2.1).1
        rw [← e2]
        simp only [List.length_drop] at h2 ⊢
        omega
      · cases h
  · cases h
theorem ref_len {r t r1 : Bs} (h : refL r = .ok (t, r1)) : r1.length + 4 ≤ r.length := by
  unfold refL at h
  split at h
  · rename_i x hx
    injection h with h
    simp only [Prod.mk.injEq] at h
    obtain ⟨_, e2⟩ := h
    have h1 := List.find?_some hx
    have h2 := names_len x (List.mem_of_find?_eq_some hx)
    have h3 := pre_len h1
    rw [← e2, List.length_drop]
    omega
  · simp only at h
    split at h
    · rename_i x hx
      injection h with h
      subst h
      have := num_len hx
      simpa using this
    · split at h
      · rename_i x hx
        injection h with h
        subst h
        have := num_len hx
        simp only [List.length_cons, List.length_nil] at this
        omega
      · cases h
theorem step_len {o : Opn} {around ps : List Opn} {r r1 : Bs} (h : stepL o around r = .ok (ps, r1)) : r1.length < r.length := by
  unfold stepL at h
  split at h
  · cases h
  · rename_i hne
    have hpos : 0 < r.length := List.length_pos_iff.2 hne
    split at h
    · split at h
      · cases h
      · split at h
        · obtain ⟨r1', hw, h⟩ := bind_ok h
          obtain ⟨r2, hw2, h⟩ := bind_ok h
          injection h with h
          simp only [Prod.mk.injEq] at h
          obtain ⟨_, e2⟩ := h
          subst e2
          have h1 := want_len hw
          have h2 := want_len hw2
          have h3 := skip_len r1'
          simp only [List.length_drop, List.length_cons, List.length_nil] at h1 h2
          omega
        · split at h
          · cases h
          · obtain ⟨⟨n, m, r2⟩, hb, h⟩ := bind_ok h
            injection h with h
            simp only [Prod.mk.injEq] at h
            obtain ⟨_, e2⟩ := h
            subst e2
            have := (begin_ok hb).1
            omega
    · simp only at h
      split at h
      · cases h
      · split at h
        · obtain ⟨⟨t, r2⟩, hb, h⟩ := bind_ok h
          injection h with h
          simp only [Prod.mk.injEq] at h
          obtain ⟨_, e2⟩ := h
          subst e2
          have := ref_len hb
          omega
        · split at h
          · cases h
          · injection h with h
            simp only [Prod.mk.injEq] at h
            obtain ⟨_, e2⟩ := h
            have := Lib.decodeL_width r
            rw [← e2, List.length_drop]
            omega
/-- the bound on a run is none -/
theorem run_more : ∀ (n : Nat) (r : Bs) (ps : List Opn) (f : Nat), r.length ≤ n → r.length < f → runL f ps r = runL (r.length + 1) ps r
  | n, r, [], f, hn, hf => by
    cases f with
    | zero => omega
    | succ f => rfl
  | n, r, o :: around, f, hn, hf => by
    cases f with
    | zero => omega
    | succ f =>
      simp only [runL]
      cases hs : stepL o around r with
      | error e => rfl
      | ok x =>
        obtain ⟨ps, r1⟩ := x
        have hl := step_len hs
        simp only [bind, Except.bind]
        split
        · rfl
        · cases n with
          | zero => omega
          | succ n => rw [run_more n r1 ps f (by omega) (by omega), run_more n r1 ps r.length (by omega) (by omega)]
def run (ps : List Opn) (r : Bs) : R (Tree × Bs) := runL (r.length + 1) ps r
/-- one step of a run -/
theorem run_step {o : Opn} {around ps : List Opn} {r r1 : Bs} (h : stepL o around r = .ok (ps, r1)) (hn : ¬ (around = [] ∧ [60, 47].isPrefixOf r = true)) : run (o :: around) r = run ps r1 := by
  unfold run
  simp only [runL, h, bind, Except.bind]
  rw [if_neg hn]
  exact run_more r1.length r1 ps _ (Nat.le_refl _) (step_len h)
theorem run_fail {o : Opn} {around : List Opn} {r : Bs} {e : Int × Nat} (h : stepL o around r = .error e) : run (o :: around) r = .error e := by
  unfold run
  simp only [runL, h, bind, Except.bind]
/-- the last step of a run -/
def topElem (o : Opn) (ps : List Opn) : Tree := match ps with | o :: _ => o.elem | [] => o.elem
theorem run_last {o : Opn} {ps : List Opn} {r r1 : Bs} (h : stepL o [] r = .ok (ps, r1)) (hp : [60, 47].isPrefixOf r = true) : run [o] r = .ok (topElem o ps, r1) := by
  unfold run
  simp only [runL, h, bind, Except.bind]
  rw [if_pos ⟨trivial, hp⟩]
  cases ps <;> rfl
end Go.Proofs.YtgmgghbocidibaaGreatDoor

/-
  XML, plain: what is written of a right element is read as that element.
-/
namespace Go.Proofs.YtgmgghbocidibaaGreatDoor
open Go.Lib

/-- a text's first character is one that XML knows -/
def okX (l : Bs) : Bool := !((decodeL l).1 = 65533 && (decodeL l).2 = 1) && knowsX (decodeL l).1
/-- a text of characters that XML knows -/
inductive Plain : Bs → Prop
  | nil : Plain []
  | cons (l : Bs) (hne : l ≠ []) (hok : okX l = true) (h : Plain (l.drop (decodeL l).2)) : Plain l

/-- the first character's bytes alone tell it -/
theorem decode_local {l : Bs} (hne : l ≠ []) (hok : okX l = true) (x : Bs) : decodeL (l.take (decodeL l).2 ++ x) = decodeL l ∧ (decodeL l).2 ≤ l.length := by
  have hv : ¬ ((decodeL l).1 = 65533 ∧ (decodeL l).2 = 1) := by
    unfold okX at hok
    simp only [Bool.and_eq_true, Bool.not_eq_true', Bool.and_eq_false_iff, decide_eq_false_iff_not] at hok
    rintro ⟨h1, h2⟩
    rcases hok.1 with h | h
    · exact h h1
    · exact h h2
  have hl : 0 < l.length := List.length_pos_iff.2 hne
  have k0 := (l.getD 0 0).toNat_lt
  rw [decodeL_N] at hv
  rw [decodeL_N l]
  rcases decodeN_shape l.length (l.getD 0 0).toNat (l.getD 1 0).toNat (l.getD 2 0).toNat (l.getD 3 0).toNat with ⟨c, e⟩ | ⟨c1, c2, c3, cv, e⟩ | ⟨c1, c2, c3, c4, cv, cs, e⟩ | ⟨c1, c2, c3, c4, c5, cv, cw, e⟩ | e
  · rw [e]
    refine ⟨?_, hl⟩
    rw [takeA l hl, decodeL_N]
    unfold decodeN
    simp only [List.cons_append, List.getD_cons_zero]
    rw [if_pos c]
  · rw [e]
    refine ⟨?_, c2⟩
    rw [takeB l c2, decodeL_N]
    unfold decodeN
    simp only [List.cons_append, List.nil_append, List.getD_cons_zero, List.getD_cons_succ, List.length_cons]
    rw [if_neg (by omega), if_pos ⟨c1, by omega, c3⟩, if_pos cv]
  · rw [e]
    refine ⟨?_, c2⟩
    rw [takeC l c2, decodeL_N]
    unfold decodeN
    simp only [List.cons_append, List.nil_append, List.getD_cons_zero, List.getD_cons_succ, List.length_cons]
    rw [if_neg (by omega), if_neg (by omega), if_pos ⟨c1, ⟨by omega, c3⟩, by omega, c4⟩, if_pos]
    exact ⟨cv, by omega⟩
  · rw [e]
    refine ⟨?_, c2⟩
    rw [takeD l c2, decodeL_N]
    unfold decodeN
    simp only [List.cons_append, List.nil_append, List.getD_cons_zero, List.getD_cons_succ, List.length_cons]
    rw [if_neg (by omega), if_neg (by omega), if_neg (by omega), if_pos ⟨c1, ⟨by omega, c3⟩, ⟨by omega, c4⟩, by omega, c5⟩, if_pos]
    exact ⟨cv, by omega⟩
  · exact absurd ⟨by rw [e], by rw [e]⟩ hv
theorem okX_enc {l : Bs} (hne : l ≠ []) (hok : okX l = true) : encX (decodeL l).1 = l.take (decodeL l).2 := by
  refine encode_decode l hne (fun h => ?_)
  unfold okX at hok
  simp [h.1, h.2] at hok
theorem decode_small {l : Bs} (_hne : l ≠ []) (h : (l.getD 0 0).toNat < 128) : decodeL l = ((l.getD 0 0).toNat, 1) := by
  rw [decodeL_N]
  unfold decodeN
  rw [if_pos h]
/-- bytes of a character that is no single byte are none that are escaped -/
theorem esc_big {l : Bs} (_hne : l ≠ []) (hok : okX l = true) (hb : ¬ (l.getD 0 0).toNat < 128) : escL (l.take (decodeL l).2) = l.take (decodeL l).2 := by
  have key : ∀ b : UInt8, 128 ≤ b.toNat → escB b = [b] := by
    intro b hb
    unfold escB
    have h : ∀ n : UInt8, n.toNat < 128 → b ≠ n := fun n hn e => by subst e; omega
    rw [if_neg (h 38 (by decide)), if_neg (h 60 (by decide)), if_neg (h 62 (by decide)), if_neg (h 34 (by decide)), if_neg (h 13 (by decide))]
  have hv : ¬ ((decodeL l).1 = 65533 ∧ (decodeL l).2 = 1) := fun h => by
    unfold okX at hok
    simp [h.1, h.2] at hok
  rw [decodeL_N] at hv ⊢
  rcases decodeN_shape l.length (l.getD 0 0).toNat (l.getD 1 0).toNat (l.getD 2 0).toNat (l.getD 3 0).toNat with ⟨c, e⟩ | ⟨c1, c2, c3, cv, e⟩ | ⟨c1, c2, c3, c4, cv, cs, e⟩ | ⟨c1, c2, c3, c4, c5, cv, cw, e⟩ | e
  · exact absurd c hb
  · rw [e, takeB l c2]
    simp only [escL, List.flatMap_cons, List.flatMap_nil, key _ (show 128 ≤ (l.getD 0 0).toNat by omega), key _ (show 128 ≤ (l.getD 1 0).toNat by omega)]
    rfl
  · rw [e, takeC l c2]
    simp only [escL, List.flatMap_cons, List.flatMap_nil, key _ (show 128 ≤ (l.getD 0 0).toNat by omega), key _ (show 128 ≤ (l.getD 1 0).toNat by omega), key _ (show 128 ≤ (l.getD 2 0).toNat by omega)]
    rfl
  · rw [e, takeD l c2]
    simp only [escL, List.flatMap_cons, List.flatMap_nil, key _ (show 128 ≤ (l.getD 0 0).toNat by omega), key _ (show 128 ≤ (l.getD 1 0).toNat by omega), key _ (show 128 ≤ (l.getD 2 0).toNat by omega), key _ (show 128 ≤ (l.getD 3 0).toNat by omega)]
    rfl
  · exact absurd ⟨by rw [e], by rw [e]⟩ hv
/-- what & tells of what was escaped -/
theorem ref_esc {b : UInt8} (hb : b = 38 ∨ b = 60 ∨ b = 62 ∨ b = 34 ∨ b = 13) (r : Bs) : refL (escB b ++ r) = .ok ([b], r) ∧ (escB b ++ r).head? = some 38 := by
  rcases hb with rfl | rfl | rfl | rfl | rfl
  · exact ⟨rfl, rfl⟩
  · exact ⟨rfl, rfl⟩
  · exact ⟨rfl, rfl⟩
  · exact ⟨rfl, rfl⟩
  · refine ⟨?_, rfl⟩
    have h1 : numL [38, 35] 10 7 ([38, 35, 49, 51, 59] ++ r) = .inl ([13], r) := by
      unfold numL
      rw [if_pos (by rfl)]
      have ht : ([38, 35, 49, 51, 59] ++ r : Bs).drop ([38, 35] : Bs).length = 49 :: 51 :: 59 :: r := rfl
      have hw : (49 :: 51 :: 59 :: r : Bs).takeWhile (digX 10) = [49, 51] := rfl
      simp only [ht, hw]
      rw [if_neg (by simp only [List.length_cons, List.length_nil]; omega), if_pos ⟨by decide, by rfl, by rfl⟩]
      rfl
    show refL ([38, 35, 49, 51, 59] ++ r) = _
    unfold refL
    rw [show namesX.find? (fun x => x.1.isPrefixOf ([38, 35, 49, 51, 59] ++ r)) = none from rfl]
    simp only [h1]
theorem escB_other {b : UInt8} (hb : ¬ (b = 38 ∨ b = 60 ∨ b = 62 ∨ b = 34 ∨ b = 13)) : escB b = [b] := by
  unfold escB
  rw [if_neg (fun h => hb (.inl h)), if_neg (fun h => hb (.inr (.inl h))), if_neg (fun h => hb (.inr (.inr (.inl h)))), if_neg (fun h => hb (.inr (.inr (.inr (.inl h))))), if_neg (fun h => hb (.inr (.inr (.inr (.inr h)))))]
/-- a text is read as it was -/
theorem run_text {t : Bs} (h : Plain t) : ∀ (o : Opn) (around : List Opn) (r : Bs), o.kids = [] → ∃ b, run (o :: around) (escL t ++ r) = run ({ o with text := o.text ++ t, solid := b } :: around) r := by
  induction h with
  | nil => intro o around r hk; exact ⟨o.solid, by simp [escL]⟩
  | cons l hne hok hp ih =>
    intro o around r hk
    obtain ⟨hloc, hlen⟩ := decode_local hne hok (escL (l.drop (decodeL l).2) ++ r)
    have henc := okX_enc hne hok
    have hsplit : escL l = escL (l.take (decodeL l).2) ++ escL (l.drop (decodeL l).2) := by
      unfold escL
      rw [← List.flatMap_append, List.take_append_drop]
    have hpos := decodeL_width l
    by_cases hs : (l.getD 0 0) = 38 ∨ (l.getD 0 0) = 60 ∨ (l.getD 0 0) = 62 ∨ (l.getD 0 0) = 34 ∨ (l.getD 0 0) = 13
    · have hsm : (l.getD 0 0).toNat < 128 := by rcases hs with h | h | h | h | h <;> rw [h] <;> decide
      have hd := decode_small hne hsm
      have hk1 : (decodeL l).2 = 1 := by rw [hd]
      have htk : l.take (decodeL l).2 = [l.getD 0 0] := by rw [hk1, takeA l (List.length_pos_iff.2 hne)]
      obtain ⟨h1, h2⟩ := ref_esc hs (escL (l.drop (decodeL l).2) ++ r)
      have he : escL l ++ r = escB (l.getD 0 0) ++ (escL (l.drop (decodeL l).2) ++ r) := by
        rw [hsplit, htk]
        simp [escL]
      have hst : stepL o around (escL l ++ r) = .ok ({ o with solid := true, text := o.text ++ [l.getD 0 0] } :: around, escL (l.drop (decodeL l).2) ++ r) := by
        rw [he]
        unfold stepL
        rw [if_neg (by intro h0; rw [h0] at h2; cases h2), if_neg (by rw [h2]; decide)]
        simp only
        rw [if_neg (by simp [hk]), if_pos h2, h1]
        rfl
      obtain ⟨b, hb⟩ := ih { o with solid := true, text := o.text ++ [l.getD 0 0] } around r hk
      refine ⟨b, ?_⟩
      rw [run_step hst (by
        rintro ⟨_, h0⟩
        rw [he] at h0
        rw [List.isPrefixOf_iff_prefix] at h0
        obtain ⟨z, hz⟩ := h0
        rw [← hz] at h2
        cases h2), hb]
      congr 2
      simp only [List.append_assoc]
      rw [← htk, List.take_append_drop]
    · have hesc : escL (l.take (decodeL l).2) = l.take (decodeL l).2 := by
        by_cases hb : (l.getD 0 0).toNat < 128
        · have hd := decode_small hne hb
          have hk1 : (decodeL l).2 = 1 := by rw [hd]
          rw [hk1, takeA l (List.length_pos_iff.2 hne)]
          unfold escL
          rw [List.flatMap_cons, escB_other hs]
          rfl
        · exact esc_big hne hok hb
      have he : escL l ++ r = l.take (decodeL l).2 ++ (escL (l.drop (decodeL l).2) ++ r) := by rw [hsplit, hesc, List.append_assoc]
      have hhd : (escL l ++ r).head? = some (l.getD 0 0) := by
        rw [he]
        cases l with
        | nil => exact absurd rfl hne
        | cons b l =>
          obtain ⟨k, hk⟩ : ∃ k, (decodeL (b :: l)).2 = k + 1 := ⟨(decodeL (b :: l)).2 - 1, by omega⟩
          rw [hk]
          rfl
      rw [← he] at hloc
      have hst : stepL o around (escL l ++ r) = .ok ({ o with solid := o.solid || !(blankB (l.getD 0 0)), text := o.text ++ l.take (decodeL l).2 } :: around, escL (l.drop (decodeL l).2) ++ r) := by
        unfold stepL
        rw [if_neg (by intro h0; rw [h0] at hhd; cases hhd), if_neg (by rw [hhd]; intro h; injection h with h; exact hs (.inr (.inl h)))]
        simp only [hloc, hhd, Option.any_some]
        rw [if_neg (by simp [hk]), if_neg (by intro h; injection h with h; exact hs (.inl h)), if_neg, henc]
        · congr 2
          rw [he, List.drop_left' (by rw [List.length_take]; omega)]
        · unfold okX at hok
          rintro (⟨h1, h2⟩ | h1)
          · simp [h1, h2] at hok
          · simp [h1] at hok
      obtain ⟨b, hb⟩ := ih { o with solid := o.solid || !(blankB (l.getD 0 0)), text := o.text ++ l.take (decodeL l).2 } around r hk
      refine ⟨b, ?_⟩
      rw [run_step hst (by
        rintro ⟨_, h0⟩
        rw [List.isPrefixOf_iff_prefix] at h0
        obtain ⟨z, hz⟩ := h0
        rw [← hz] at hhd
        injection hhd with hhd
        exact hs (.inr (.inl hhd.symm))), hb]
      congr 2
      simp only [List.append_assoc]
      rw [List.take_append_drop]
end Go.Proofs.YtgmgghbocidibaaGreatDoor
