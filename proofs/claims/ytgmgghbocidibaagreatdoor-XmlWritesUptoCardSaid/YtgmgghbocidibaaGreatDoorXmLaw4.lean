/-
  XML, plain: an element is read alike with and without a head, blanks and attributes.
-/
import Derived.Test.YtgmgghbocidibaaGreatDoorXmLaw3
namespace Go.Proofs.YtgmgghbocidibaaGreatDoor
open Go.Lib

/-- both are wrong in the same way -/
def Bad2 {α β : Type} (x : R α) (y : R β) : Prop := ∃ c k k', (c = 55 ∨ c = 57) ∧ x = .error (c, k) ∧ y = .error (c, k')
theorem Bad2.bind {α β γ δ : Type} {x : R α} {y : R β} (h : Bad2 x y) (f : α → R γ) (g : β → R δ) : Bad2 (x >>= f) (y >>= g) := by
  obtain ⟨c, k, k', hc, rfl, rfl⟩ := h
  exact ⟨c, k, k', hc, rfl, rfl⟩
theorem bad55 {α β : Type} (k k' : Nat) : Bad2 (.error (55, k) : R α) (.error (55, k') : R β) := ⟨55, k, k', .inl rfl, rfl, rfl⟩
/-- what ends the element -/
def tl (u : Bs) : Bs := 60 :: 47 :: 97 :: u
def TwoB (u u' : Bs) (x y : R Bs) : Prop := Bad2 x y ∨ ∃ r, x = .ok (r ++ tl u) ∧ y = .ok (r ++ tl u')
theorem drop_tail {p : UInt8 → Bool} (hp : p 60 = false) (u : Bs) : ∀ r : Bs, (r ++ tl u).dropWhile p = r.dropWhile p ++ tl u
  | [] => by simp [tl, hp]
  | b :: r => by
    rw [List.cons_append, List.dropWhile_cons, List.dropWhile_cons]
    split
    · exact drop_tail hp u r
    · rfl
theorem take_tail {p : UInt8 → Bool} (hp : p 60 = false) (u : Bs) : ∀ r : Bs, (r ++ tl u).takeWhile p = r.takeWhile p
  | [] => by simp [tl, hp]
  | b :: r => by
    rw [List.cons_append, List.takeWhile_cons, List.takeWhile_cons]
    split
    · rw [take_tail hp u r]
    · rfl
theorem skip_tail (u r : Bs) : skipL (r ++ tl u) = skipL r ++ tl u := drop_tail (by decide) u r
theorem want_two (u u' : Bs) : ∀ (p r : Bs), (∀ b ∈ p, b ≠ 60) → TwoB u u' (wantL p (r ++ tl u)) (wantL p (r ++ tl u'))
  | [], r, _ => .inr ⟨r, by cases r <;> rfl, by cases r <;> rfl⟩
  | b :: p, [], h => by
    left
    have hb : ¬ (60 : UInt8) = b := fun e => h b (by simp) e.symm
    simp only [List.nil_append, tl, wantL, if_neg hb]
    exact bad55 _ _
  | b :: p, c :: r, h => by
    simp only [List.cons_append, wantL]
    split
    · exact want_two u u' p r (fun x hx => h x (by simp [hx]))
    · exact .inl (bad55 _ _)
theorem first60 : firstX 60 = false := by decide
theorem name60 (also : Bool) : nameX also 60 = false := by cases also <;> decide
theorem name_two (also : Bool) (u u' : Bs) (r : Bs) : Bad2 (nameL also (r ++ tl u)) (nameL also (r ++ tl u')) ∨ ∃ n r1, nameL also (r ++ tl u) = .ok (n, r1 ++ tl u) ∧ nameL also (r ++ tl u') = .ok (n, r1 ++ tl u') := by
  cases r with
  | nil =>
    left
    simp only [List.nil_append, tl, nameL, first60, Bool.false_eq_true, if_false]
    exact bad55 _ _
  | cons b r =>
    have e1 := take_tail (name60 also) u (b :: r)
    have e2 := take_tail (name60 also) u' (b :: r)
    have e3 := drop_tail (name60 also) u (b :: r)
    have e4 := drop_tail (name60 also) u' (b :: r)
    simp only [List.cons_append] at e1 e2 e3 e4
    simp only [List.cons_append, nameL, e1, e2, e3, e4]
    split
    · split
      · exact .inl (bad55 _ _)
      · exact .inr ⟨_, _, rfl, rfl⟩
    · exact .inl (bad55 _ _)
theorem attr_two (u u' r : Bs) : TwoB u u' (attrL (r ++ tl u)) (attrL (r ++ tl u')) := by
  unfold attrL
  rcases name_two true u u' r with h | ⟨n, r1, h1, h2⟩
  · exact .inl (h.bind _ _)
  · rw [ok_bind h1, ok_bind h2]
    rcases want_two u u' [61] r1 (by decide) with h | ⟨r2, h3, h4⟩
    · exact .inl (h.bind _ _)
    · simp only
      rw [ok_bind h3, ok_bind h4]
      cases r2 with
      | nil =>
        left
        simp only [List.nil_append, tl]
        rw [if_neg (by decide), if_neg (by decide)]
        exact bad55 _ _
      | cons q r4 =>
        simp only [List.cons_append]
        split
        · rename_i hq
          have hp : (decide ((60 : UInt8) ≠ 60) && decide ((60 : UInt8) ≠ q)) = false := by simp
          rw [drop_tail (p := fun b => decide (b ≠ 60) && decide (b ≠ q)) hp u r4, drop_tail (p := fun b => decide (b ≠ 60) && decide (b ≠ q)) hp u' r4]
          exact want_two u u' [q] _ (by rintro b hb; rw [List.mem_singleton] at hb; subst hb; rcases hq with rfl | rfl <;> decide)
        · exact .inl (bad55 _ _)
theorem attrs_more : ∀ (f f' : Nat) (r : Bs), r.length < f → r.length < f' → attrsL f r = attrsL f' r
  | 0, _, r, h, _ => by omega
  | _, 0, r, _, h => by omega
  | f + 1, f' + 1, r, h, h' => by
    unfold attrsL
    simp only
    split
    · rfl
    · split
      · rfl
      · cases ha : attrL (skipL r) with
        | error e => rfl
        | ok r2 =>
          have h1 := attr_len ha
          have h2 := skip_len r
          exact attrs_more f f' r2 (by omega) (by omega)
theorem tl_head (u : Bs) : (tl u).head? = some 60 := rfl
theorem attrs_two (u u' : Bs) : ∀ (n : Nat) (r : Bs), r.length ≤ n → ∀ f f', (r ++ tl u).length < f → (r ++ tl u').length < f' → TwoB u u' (attrsL f (r ++ tl u)) (attrsL f' (r ++ tl u'))
  | n, r, hn, 0, f', h, h' => by omega
  | n, r, hn, f + 1, 0, h, h' => by omega
  | n, r, hn, f + 1, f' + 1, h, h' => by
    unfold attrsL
    simp only [skip_tail]
    have hl : (skipL r).length ≤ r.length := skip_len r
    have hn0 : ∀ v, ¬ ((tl v).head? = some 47 ∨ (tl v).head? = some 62) := fun v => by rw [tl_head]; decide
    cases hk : skipL r with
    | nil =>
      rw [List.nil_append, List.nil_append, if_neg (hn0 u), if_neg (hn0 u')]
      by_cases e : r.length = 0
      · rw [if_pos (by rw [List.length_append]; omega), if_pos (by rw [List.length_append]; omega)]
        exact .inl (bad55 _ _)
      · rw [if_neg (by rw [List.length_append]; omega), if_neg (by rw [List.length_append]; omega)]
        have h1 := attr_two u u' []
        rcases h1 with h1 | ⟨r2, h1, h2⟩
        · exact .inl (h1.bind _ _)
        · exfalso
          rw [List.nil_append] at h1
          simp only [tl, attrL, nameL, first60, Bool.false_eq_true, if_false] at h1
          cases h1
    | cons b rs =>
      simp only [List.cons_append, List.head?_cons]
      by_cases hb : some b = some (47 : UInt8) ∨ some b = some 62
      · rw [if_pos hb, if_pos hb]
        exact .inr ⟨b :: rs, rfl, rfl⟩
      · rw [if_neg hb, if_neg hb]
        rw [hk] at hl
        simp only [List.length_cons, List.length_append] at hl h h' ⊢
        by_cases e : rs.length + 1 = r.length
        · rw [if_pos (by omega), if_pos (by omega)]
          exact .inl (bad55 _ _)
        · rw [if_neg (by omega), if_neg (by omega)]
          have hA := attr_two u u' (b :: rs)
          simp only [List.cons_append] at hA
          rcases hA with h1 | ⟨r2, h1, h2⟩
          · exact .inl (h1.bind _ _)
          · rw [ok_bind h1, ok_bind h2]
            have l1 := attr_len h1
            have l2 := attr_len h2
            simp only [List.length_append, List.length_cons] at l1 l2
            cases n with
            | zero => omega
            | succ n => exact attrs_two u u' n r2 (by omega) f f' (by rw [List.length_append]; omega) (by rw [List.length_append]; omega)
def begR (r : Bs) : R (Bs × Bool × Bs) := wantL [60] r >>= fun r1 => nameL false r1 >>= fun y => attrsL (y.2.length + 1) y.2 >>= fun r3 =>
  if r3.head? = some 47 then wantL [62] (r3.drop 1) >>= fun r5 => (.ok (y.1, false, r5) : R (Bs × Bool × Bs)) else .ok (y.1, true, r3.drop 1)
theorem beg_deep {a : Nat} {r : Bs} (h : a = 20 ∧ r.head? = some 60) : beginL a r = .error (57, r.length) := by
  unfold beginL
  rw [if_pos h]
theorem beg_flat {a : Nat} {r : Bs} (h : ¬ (a = 20 ∧ r.head? = some 60)) : beginL a r = begR r := by
  unfold beginL
  rw [if_neg h]
  rfl
theorem begin_two (u u' : Bs) (a : Nat) {r : Bs} (hr : r ≠ []) : Bad2 (beginL a (r ++ tl u)) (beginL a (r ++ tl u')) ∨ ∃ n m r1, beginL a (r ++ tl u) = .ok (n, m, r1 ++ tl u) ∧ beginL a (r ++ tl u') = .ok (n, m, r1 ++ tl u') := by
  cases r with
  | nil => exact absurd rfl hr
  | cons b r =>
    simp only [List.cons_append]
    by_cases h20 : a = 20 ∧ some b = some (60 : UInt8)
    · rw [beg_deep (r := b :: (r ++ tl u)) h20, beg_deep (r := b :: (r ++ tl u')) h20]
      exact .inl ⟨57, _, _, .inr rfl, rfl, rfl⟩
    · rw [beg_flat (r := b :: (r ++ tl u)) h20, beg_flat (r := b :: (r ++ tl u')) h20]
      unfold begR
      by_cases hb : b = 60
      · subst hb
        rw [ok_bind (show wantL [60] (60 :: (r ++ tl u)) = .ok (r ++ tl u) from want_pre [60] _), ok_bind (show wantL [60] (60 :: (r ++ tl u')) = .ok (r ++ tl u') from want_pre [60] _)]
        rcases name_two false u u' r with h | ⟨n, r1, h1, h2⟩
        · exact .inl (h.bind _ _)
        · rw [ok_bind h1, ok_bind h2]
          simp only
          rcases attrs_two u u' r1.length r1 (Nat.le_refl _) _ _ (Nat.lt_succ_self _) (Nat.lt_succ_self _) with h | ⟨r3, h3, h4⟩
          · exact .inl (h.bind _ _)
          · rw [ok_bind h3, ok_bind h4]
            have hh := attrs_head (Nat.lt_succ_self _) h3
            cases r3 with
            | nil => rw [List.nil_append, tl_head] at hh; rcases hh with e | e <;> exact absurd e (by decide)
            | cons x r3 =>
              by_cases hx : some x = some (47 : UInt8)
              · rw [if_pos (show (x :: r3 ++ tl u).head? = some 47 from hx), if_pos (show (x :: r3 ++ tl u').head? = some 47 from hx), show (x :: r3 ++ tl u).drop 1 = r3 ++ tl u from rfl, show (x :: r3 ++ tl u').drop 1 = r3 ++ tl u' from rfl]
                rcases want_two u u' [62] r3 (by decide) with h | ⟨r5, h5, h6⟩
                · exact .inl (h.bind _ _)
                · rw [ok_bind h5, ok_bind h6]
                  exact .inr ⟨n, false, r5, rfl, rfl⟩
              · rw [if_neg (show ¬ (x :: r3 ++ tl u).head? = some 47 from hx), if_neg (show ¬ (x :: r3 ++ tl u').head? = some 47 from hx)]
                exact .inr ⟨n, true, r3, rfl, rfl⟩
      · left
        have e : ∀ x : Bs, wantL [60] (b :: x) = .error (55, x.length + 1) := fun x => by simp only [wantL, if_neg hb]
        rw [e, e]
        exact (bad55 _ _).bind _ _
theorem pre_tail (u : Bs) : ∀ (p r : Bs), (∀ b ∈ p, b ≠ 60) → p.isPrefixOf (r ++ tl u) = p.isPrefixOf r
  | [], r, _ => by simp
  | b :: p, [], h => by
    have hb : (b == 60) = false := beq_eq_false_iff_ne.2 (h b (by simp))
    simp only [List.nil_append, tl, List.isPrefixOf, hb, Bool.false_and]
  | b :: p, c :: r, h => by
    simp only [List.cons_append, List.isPrefixOf]
    rw [pre_tail u p r (fun x hx => h x (by simp [hx]))]
theorem dig60 (base : Nat) : digX base 60 = false := by unfold digX; simp
theorem num_two (u u' hd : Bs) (base most : Nat) (hh : ∀ b ∈ hd, b ≠ 60) (r : Bs) : (∃ b b', numL hd base most (r ++ tl u) = .inr b ∧ numL hd base most (r ++ tl u') = .inr b') ∨ ∃ t r1, numL hd base most (r ++ tl u) = .inl (t, r1 ++ tl u) ∧ numL hd base most (r ++ tl u') = .inl (t, r1 ++ tl u') := by
  have key : ∀ v : Bs, numL hd base most (r ++ tl v) = if hd.isPrefixOf r then (if 0 < min ((r.drop hd.length).takeWhile (digX base)).length most ∧ (r.drop hd.length)[min ((r.drop hd.length).takeWhile (digX base)).length most]? = some 59 ∧ knowsX (numX base ((r.drop hd.length).take (min ((r.drop hd.length).takeWhile (digX base)).length most))) then .inl (encX (numX base ((r.drop hd.length).take (min ((r.drop hd.length).takeWhile (digX base)).length most))), (r.drop hd.length).drop (min ((r.drop hd.length).takeWhile (digX base)).length most + 1) ++ tl v) else .inr false) else .inr ((r ++ tl v).isPrefixOf hd) := by
    intro v
    unfold numL
    rw [pre_tail v hd r hh]
    split
    · rename_i hp
      have hl := pre_len hp
      simp only
      rw [List.drop_append_of_le_length hl, take_tail (dig60 base) v]
      have hw := (List.takeWhile_sublist (digX base) (l := r.drop hd.length)).length_le
      generalize hn : min ((r.drop hd.length).takeWhile (digX base)).length most = n
      have hnl : n ≤ (r.drop hd.length).length := by omega
      generalize r.drop hd.length = q at *
      rw [if_neg (by rw [List.length_append]; simp only [tl, List.length_cons]; omega), List.take_append_of_le_length hnl]
      by_cases hlt : n < q.length
      · rw [List.getElem?_append_left hlt, List.drop_append_of_le_length (by omega)]
      · obtain rfl : n = q.length := by omega
        rw [if_neg, if_neg]
        · rintro ⟨_, e, _⟩
          rw [List.getElem?_eq_none (Nat.le_refl _)] at e; cases e
        · rintro ⟨_, e, _⟩
          rw [List.getElem?_append_right (Nat.le_refl _), Nat.sub_self] at e
          exact absurd e (by simp [tl])
    · rfl
  rw [key, key]
  split
  · split
    · exact .inr ⟨_, _, rfl, rfl⟩
    · exact .inl ⟨_, _, rfl, rfl⟩
  · exact .inl ⟨_, _, rfl, rfl⟩
theorem find_tail (u r : Bs) : namesX.find? (fun x => x.1.isPrefixOf (r ++ tl u)) = namesX.find? (fun x => x.1.isPrefixOf r) := by
  unfold namesX
  simp only [List.find?_cons, List.find?_nil]
  rw [pre_tail u _ r (by decide), pre_tail u _ r (by decide), pre_tail u _ r (by decide), pre_tail u _ r (by decide), pre_tail u _ r (by decide)]
theorem ref_two (u u' r : Bs) : Bad2 (refL (r ++ tl u)) (refL (r ++ tl u')) ∨ ∃ t r1, refL (r ++ tl u) = .ok (t, r1 ++ tl u) ∧ refL (r ++ tl u') = .ok (t, r1 ++ tl u') := by
  unfold refL
  rw [find_tail, find_tail]
  cases hf : namesX.find? (fun x => x.1.isPrefixOf r) with
  | some x =>
    right
    have hl := pre_len (List.find?_some (p := fun x : Bs × Bs => x.1.isPrefixOf r) hf)
    simp only
    rw [List.drop_append_of_le_length hl, List.drop_append_of_le_length hl]
    exact ⟨_, _, rfl, rfl⟩
  | none =>
    simp only
    rcases num_two u u' [38, 35] 10 7 (by decide) r with ⟨b, b', h1, h2⟩ | ⟨t, r1, h1, h2⟩
    · rw [h1, h2]
      simp only
      rcases num_two u u' [38, 35, 120] 16 6 (by decide) r with ⟨d, d', h3, h4⟩ | ⟨t, r1, h3, h4⟩
      · rw [h3, h4]
        exact .inl (bad55 _ _)
      · rw [h3, h4]
        exact .inr ⟨t, r1, rfl, rfl⟩
    · rw [h1, h2]
      exact .inr ⟨t, r1, rfl, rfl⟩
theorem noAscii {l : Bs} (hb : ¬ (l.getD 0 0).toNat < 128) (j : Nat) (hj : j < (decodeL l).2) : 128 ≤ (l.getD j 0).toNat := by
  rw [decodeL_N] at hj
  rcases decodeN_shape l.length (l.getD 0 0).toNat (l.getD 1 0).toNat (l.getD 2 0).toNat (l.getD 3 0).toNat with ⟨c, e⟩ | ⟨c1, c2, c3, cv, e⟩ | ⟨c1, c2, c3, c4, cv, cs, e⟩ | ⟨c1, c2, c3, c4, c5, cv, cw, e⟩ | e
  · exact absurd c hb
  · rw [e] at hj
    simp only at hj
    rcases (by omega : j = 0 ∨ j = 1) with rfl | rfl <;> omega
  · rw [e] at hj
    simp only at hj
    rcases (by omega : j = 0 ∨ j = 1 ∨ j = 2) with rfl | rfl | rfl <;> omega
  · rw [e] at hj
    simp only at hj
    rcases (by omega : j = 0 ∨ j = 1 ∨ j = 2 ∨ j = 3) with rfl | rfl | rfl | rfl <;> omega
  · rw [e] at hj
    simp only at hj
    obtain rfl : j = 0 := by omega
    omega
theorem decodeN_big {n : Nat} (h : 4 ≤ n) (a b c d : Nat) : decodeN n a b c d = decodeN 4 a b c d := by
  have h1 : (1 < n) = (1 < 4) := propext ⟨fun _ => by decide, fun _ => by omega⟩
  have h2 : (2 < n) = (2 < 4) := propext ⟨fun _ => by decide, fun _ => by omega⟩
  have h3 : (3 < n) = (3 < 4) := propext ⟨fun _ => by decide, fun _ => by omega⟩
  unfold decodeN
  simp only [h1, h2, h3]
theorem getD_tail (u u' : Bs) {r : Bs} (hr : r ≠ []) {i : Nat} (hi : i < 4) : (r ++ tl u).getD i 0 = (r ++ tl u').getD i 0 := by
  have hp := List.length_pos_iff.2 hr
  simp only [List.getD, List.getElem?_append]
  split
  · rfl
  · have : i - r.length < 3 := by omega
    rcases (by omega : i - r.length = 0 ∨ i - r.length = 1 ∨ i - r.length = 2) with e | e | e <;> rw [e] <;> rfl
theorem decode_two (u u' : Bs) {r : Bs} (hr : r ≠ []) : decodeL (r ++ tl u) = decodeL (r ++ tl u') ∧ (decodeL (r ++ tl u)).2 ≤ r.length := by
  have hp := List.length_pos_iff.2 hr
  constructor
  · rw [decodeL_N, decodeL_N, decodeN_big (by simp only [List.length_append, tl, List.length_cons]; omega), decodeN_big (n := (r ++ tl u').length) (by simp only [List.length_append, tl, List.length_cons]; omega), getD_tail u u' hr (by omega : 0 < 4), getD_tail u u' hr (by omega : 1 < 4), getD_tail u u' hr (by omega : 2 < 4), getD_tail u u' hr (by omega : 3 < 4)]
  · apply Nat.le_of_not_lt
    intro hlt
    by_cases h0 : ((r ++ tl u).getD 0 0).toNat < 128
    · have := decode_small (l := r ++ tl u) (by simp [hr]) h0
      rw [this] at hlt
      simp only at hlt
      omega
    · have := noAscii h0 r.length hlt
      have e : (r ++ tl u).getD r.length 0 = 60 := by simp [List.getD, tl]
      rw [e] at this
      exact absurd this (by decide)
/-- the name of the outermost element -/
def rootN (ps : List Opn) : Option Bs := ps.getLast?.map (·.name)
theorem more60 : moreX 60 = false := by decide
theorem name_no60 {n : Bs} (h : nameOK n) : ∀ b ∈ n, b ≠ 60 := fun b hb e => by
  have := h.2.2 b hb
  rw [e, more60] at this; cases this
theorem step_lt_end (o : Opn) (around : List Opn) (x : Bs) : stepL o around (60 :: 47 :: x) = (wantL o.name x >>= fun r1 => wantL [62] (skipL r1) >>= fun r2 => (.ok (endL (o :: around), r2) : R (List Opn × Bs))) := by
  unfold stepL
  rw [if_neg (by simp), if_pos (by rfl), if_neg (by simp), if_pos (by rfl)]
  rfl
def begS (o : Opn) (around : List Opn) (x : Bs) : R (List Opn × Bs) := if o.solid then .error (55, x.length) else beginL (around.length + 1) x >>= fun y => (.ok (if y.2.1 then opn y.1 :: o :: around else endL (opn y.1 :: o :: around), y.2.2) : R (List Opn × Bs))
theorem step_lt_beg (o : Opn) (around : List Opn) {x : Bs} (h : x ≠ []) (h2 : x.head? ≠ some 47) : stepL o around (60 :: x) = begS o around (60 :: x) := by
  have hp := List.length_pos_iff.2 h
  unfold stepL begS
  rw [if_neg (by simp), if_pos (by rfl), if_neg (by simp only [List.length_cons]; omega), if_neg (by simpa using h2)]
  rfl
def chS (o : Opn) (around : List Opn) (s : Bool) (d : Nat × Nat) (c : Bool) (e : R (Bs × Bs)) (x : Bs) : R (List Opn × Bs) :=
  if o.kids ≠ [] ∧ s = true then .error (55, x.length)
  else if c = true then e >>= fun y => (.ok ({ o with solid := true, text := o.text ++ y.1 } :: around, y.2) : R (List Opn × Bs))
  else if (d.1 = 65533 ∧ d.2 = 1) ∨ knowsX d.1 = false then .error (55, x.length)
  else .ok ({ o with solid := o.solid || s, text := o.text ++ encX d.1 } :: around, x.drop d.2)
theorem step_ch (o : Opn) (around : List Opn) {b : UInt8} (x : Bs) (h : b ≠ 60) : stepL o around (b :: x) = chS o around (!blankB b) (decodeL (b :: x)) (decide (b = 38)) (refL (b :: x)) (b :: x) := by
  unfold stepL chS
  rw [if_neg (by simp), if_neg (by simpa using h)]
  simp only [List.head?_cons, Option.any_some, Option.some.injEq, decide_eq_true_eq]
  rfl
theorem beg_two (u u' : Bs) (o : Opn) (around : List Opn) {r : Bs} (hr : r ≠ []) : Bad2 (begS o around (r ++ tl u)) (begS o around (r ++ tl u')) ∨ ∃ ps r1, begS o around (r ++ tl u) = .ok (ps, r1 ++ tl u) ∧ begS o around (r ++ tl u') = .ok (ps, r1 ++ tl u') := by
  unfold begS
  cases o.solid with
  | true => exact .inl (bad55 _ _)
  | false =>
    simp only [Bool.false_eq_true, if_false]
    rcases begin_two u u' (around.length + 1) hr with h | ⟨n, m, r1, h1, h2⟩
    · exact .inl (h.bind _ _)
    · rw [ok_bind h1, ok_bind h2]
      exact .inr ⟨_, r1, rfl, rfl⟩
theorem step_two (u u' : Bs) {o : Opn} (around : List Opn) {r : Bs} (hr : r ≠ []) (ho : nameOK o.name) : Bad2 (stepL o around (r ++ tl u)) (stepL o around (r ++ tl u')) ∨ ∃ ps r1, stepL o around (r ++ tl u) = .ok (ps, r1 ++ tl u) ∧ stepL o around (r ++ tl u') = .ok (ps, r1 ++ tl u') := by
  cases r with
  | nil => exact absurd rfl hr
  | cons b r =>
    by_cases hb : b = 60
    · subst hb
      have hB := beg_two u u' o around (r := 60 :: r) (by simp)
      simp only [List.cons_append] at hB ⊢
      cases r with
      | nil =>
        rw [step_lt_beg o around (x := [] ++ tl u) (by simp [tl]) (by simp [tl]), step_lt_beg o around (x := [] ++ tl u') (by simp [tl]) (by simp [tl])]
        exact hB
      | cons c r =>
        by_cases hc : c = 47
        · subst hc
          simp only [List.cons_append]
          rw [step_lt_end, step_lt_end]
          rcases want_two u u' o.name r (name_no60 ho) with h | ⟨r1, h1, h2⟩
          · exact .inl (h.bind _ _)
          · rw [ok_bind h1, ok_bind h2, skip_tail, skip_tail]
            rcases want_two u u' [62] (skipL r1) (by decide) with h | ⟨r2, h3, h4⟩
            · exact .inl (h.bind _ _)
            · rw [ok_bind h3, ok_bind h4]
              exact .inr ⟨_, r2, rfl, rfl⟩
        · rw [step_lt_beg o around (x := c :: r ++ tl u) (by simp) (by simpa using hc), step_lt_beg o around (x := c :: r ++ tl u') (by simp) (by simpa using hc)]
          exact hB
    · have hD := decode_two u u' (r := b :: r) (by simp)
      have hR := ref_two u u' (b :: r)
      have e : ∀ v : Bs, (b :: r ++ tl v).drop (decodeL (b :: r ++ tl u)).2 = (b :: r).drop (decodeL (b :: r ++ tl u)).2 ++ tl v := fun v => List.drop_append_of_le_length hD.2
      simp only [List.cons_append] at hD hR e ⊢
      rw [step_ch o around _ hb, step_ch o around _ hb, ← hD.1]
      generalize decodeL (b :: (r ++ tl u)) = d at *
      unfold chS
      by_cases c1 : o.kids ≠ [] ∧ (!blankB b) = true
      · simp only [if_pos c1]
        exact .inl (bad55 _ _)
      · simp only [if_neg c1]
        by_cases c2 : decide (b = 38) = true
        · simp only [if_pos c2]
          rcases hR with h | ⟨t, r1, h1, h2⟩
          · exact .inl (h.bind _ _)
          · rw [ok_bind h1, ok_bind h2]
            exact .inr ⟨_, r1, rfl, rfl⟩
        · simp only [if_neg c2]
          by_cases c3 : (d.1 = 65533 ∧ d.2 = 1) ∨ knowsX d.1 = false
          · simp only [if_pos c3]
            exact .inl (bad55 _ _)
          · simp only [if_neg c3]
            right
            rw [e, e]
            exact ⟨_, _, rfl, rfl⟩

/-! ### the text's end -/
theorem run_blank : ∀ (p : Bs) (o : Opn) (around : List Opn), (∀ b ∈ p, blankB b = true) → ∃ k, run (o :: around) p = .error (55, k)
  | [], o, around, _ => ⟨0, run_fail (by unfold stepL; rw [if_pos rfl])⟩
  | b :: p, o, around, h => by
    have hb := h b (by simp)
    have hc : b = 32 ∨ b = 9 ∨ b = 10 ∨ b = 13 := by
      unfold blankB at hb
      simp only [Bool.or_eq_true, decide_eq_true_eq] at hb
      rcases hb with ((h | h) | h) | h
      · exact .inl h
      · exact .inr (.inl h)
      · exact .inr (.inr (.inl h))
      · exact .inr (.inr (.inr h))
    have hsm : b.toNat < 128 := by rcases hc with rfl | rfl | rfl | rfl <;> decide
    have hd : decodeL (b :: p) = (b.toNat, 1) := decode_small (l := b :: p) (by simp) hsm
    have hk : knowsX (b.toNat : Nat) = true := by rcases hc with rfl | rfl | rfl | rfl <;> decide
    have hne : b.toNat ≠ 65533 := by omega
    have h60 : ¬ b = 60 := by rcases hc with rfl | rfl | rfl | rfl <;> decide
    have h38 : ¬ b = 38 := by rcases hc with rfl | rfl | rfl | rfl <;> decide
    obtain ⟨k, hk2⟩ := run_blank p { o with solid := o.solid || !(blankB b), text := o.text ++ encX (b.toNat : Nat) } around (fun x hx => h x (by simp [hx]))
    refine ⟨k, ?_⟩
    rw [← hk2]
    refine run_step ?_ (fun hx => ?_)
    · rw [step_ch o around p h60, hd]
      unfold chS
      rw [if_neg (by rw [hb]; simp), if_neg (by simpa using h38), if_neg]
      · rfl
      · rintro (⟨e, _⟩ | e)
        · exact hne e
        · rw [hk] at e; cases e
    · have := hx.2
      rw [not_end h60] at this; cases this
theorem skip_all {p : Bs} (h : ∀ b ∈ p, blankB b = true) (x : Bs) : skipL (p ++ x) = skipL x := by
  induction p with
  | nil => rfl
  | cons b p ih =>
    have hb := h b (by simp)
    unfold skipL at ih ⊢
    rw [List.cons_append, List.dropWhile_cons, hb, if_pos rfl]
    exact ih (fun x hx => h x (by simp [hx]))
theorem skip_none {p : Bs} (h : ∀ b ∈ p, blankB b = true) : skipL p = [] := by
  have := skip_all h []
  rwa [List.append_nil] at this
/-- how the element's end is, without and with blanks -/
def u1 : Bs := [62]
def u2 (pad : Bs) : Bs := pad ++ 62 :: pad
theorem end_ok {pad : Bs} (hp : ∀ b ∈ pad, blankB b = true) {o : Opn} (around : List Opn) (h : o.name = [97]) : stepL o around (tl u1) = .ok (endL (o :: around), []) ∧ stepL o around (tl (u2 pad)) = .ok (endL (o :: around), pad) := by
  unfold stepL
  constructor
  · rw [if_neg (by simp [tl]), if_pos (tl_head _), if_neg (by simp [tl]), if_pos (by rfl), h]
    rfl
  · rw [if_neg (by simp [tl]), if_pos (tl_head _), if_neg (by simp [tl]), if_pos (by rfl), h]
    rw [ok_bind (show wantL [97] ((tl (u2 pad)).drop 2) = .ok (u2 pad) from want_pre [97] _)]
    unfold u2
    rw [skip_all hp, skip_gt, ok_bind (show wantL [62] (62 :: pad) = .ok pad from want_pre [62] _)]
    rfl
theorem end_no {pad : Bs} (hp : ∀ b ∈ pad, blankB b = true) {o : Opn} (around : List Opn) (hn : nameOK o.name) (h : o.name ≠ [97]) : Bad2 (stepL o around (tl u1)) (stepL o around (tl (u2 pad))) := by
  have key : ∀ u : Bs, (∀ c r, u = c :: r → moreX c = false) → ∃ k, stepL o around (tl u) = .error (55, k) := by
    intro u hu
    unfold stepL
    rw [if_neg (by simp [tl]), if_pos (tl_head _)]
    by_cases h1 : (tl u).length = 1
    · exact absurd h1 (by simp [tl])
    · rw [if_neg h1, if_pos (by rfl), show (tl u).drop 2 = 97 :: u from rfl]
      have hw : ∃ k, wantL o.name (97 :: u) = .error (55, k) := by
        obtain ⟨⟨b, hb, hf⟩, _, hm⟩ := hn
        cases hnm : o.name with
        | nil => rw [hnm] at hb; cases hb
        | cons c m =>
          unfold wantL
          split
          · rename_i e
            subst e
            cases m with
            | nil => exact absurd hnm h
            | cons d m =>
              cases u with
              | nil => exact ⟨_, rfl⟩
              | cons x u =>
                have hx := hu x u rfl
                have hd := hm d (by rw [hnm]; simp)
                have : ¬ x = d := fun e => by rw [e, hd] at hx; cases hx
                exact ⟨_, by unfold wantL; rw [if_neg this]⟩
          · exact ⟨_, rfl⟩
      obtain ⟨k, hk⟩ := hw
      exact ⟨k, by rw [hk]; rfl⟩
  have hbl : ∀ b, blankB b = true → moreX b = false := by
    intro b hb
    unfold blankB at hb
    simp only [Bool.or_eq_true, decide_eq_true_eq] at hb
    rcases hb with ((rfl | rfl) | rfl) | rfl <;> decide
  obtain ⟨k, h1⟩ := key u1 (fun c r e => by injection e with e _; subst e; decide)
  obtain ⟨k', h2⟩ := key (u2 pad) (fun c r e => by
    cases pad with
    | nil => injection e with e _; subst e; decide
    | cons b p =>
      injection e with e _
      subst e
      exact hbl _ (hp _ (by simp)))
  rw [h1, h2]
  exact bad55 _ _
theorem rootN_endL (ps : List Opn) : rootN (endL ps) = rootN ps := by
  match ps with
  | [] => rfl
  | [o] => rfl
  | [o, a] => rfl
  | o :: a :: b :: ps => simp [endL_two, rootN, List.getLast?_cons_cons]
theorem step_root {o : Opn} {around ps : List Opn} {r r1 : Bs} (hs : stepL o around r = .ok (ps, r1)) : rootN ps = rootN (o :: around) := by
  have hset : ∀ (b : Bool) (t : Bs), rootN ({ o with solid := b, text := t } :: around) = rootN (o :: around) := fun b t => by
    cases around with
    | nil => rfl
    | cons a around => simp [rootN, List.getLast?_cons_cons]
  have hpush : ∀ n, rootN (opn n :: o :: around) = rootN (o :: around) := fun n => by simp [rootN, List.getLast?_cons_cons]
  unfold stepL at hs
  split at hs
  · cases hs
  · split at hs
    · split at hs
      · cases hs
      · split at hs
        · obtain ⟨r1', hw, hs⟩ := bind_ok hs
          obtain ⟨r2, hw2, hs⟩ := bind_ok hs
          injection hs with hs
          simp only [Prod.mk.injEq] at hs
          rw [← hs.1, rootN_endL]
        · split at hs
          · cases hs
          · obtain ⟨⟨n, m, r2⟩, hb, hs⟩ := bind_ok hs
            injection hs with hs
            simp only [Prod.mk.injEq] at hs
            rw [← hs.1]
            split
            · exact hpush n
            · rw [rootN_endL, hpush]
    · simp only at hs
      split at hs
      · cases hs
      · split at hs
        · obtain ⟨⟨t, r2⟩, hb, hs⟩ := bind_ok hs
          injection hs with hs
          simp only [Prod.mk.injEq] at hs
          rw [← hs.1]
          exact hset _ _
        · split at hs
          · cases hs
          · injection hs with hs
            simp only [Prod.mk.injEq] at hs
            rw [← hs.1]
            exact hset _ _
/-- how two runs end -/
def TwoE (pad : Bs) (x y : R (Tree × Bs)) : Prop := Bad2 x y ∨ (∃ t r1, x = .ok (t, r1 ++ tl u1) ∧ y = .ok (t, r1 ++ tl (u2 pad))) ∨ ∃ t, x = .ok (t, []) ∧ y = .ok (t, pad)
theorem bad_of_run {o o' : Opn} {a a' : List Opn} {r r' : Bs} (h : Bad2 (stepL o a r) (stepL o' a' r')) : Bad2 (run (o :: a) r) (run (o' :: a') r') := by
  obtain ⟨c, k, k', hc, h1, h2⟩ := h
  rw [run_fail h1, run_fail h2]
  exact ⟨c, k, k', hc, rfl, rfl⟩
theorem pre_two (u : Bs) {r : Bs} (hr : r ≠ []) : [60, 47].isPrefixOf (r ++ tl u) = true ↔ [60, 47].isPrefixOf r = true := by
  cases r with
  | nil => exact absurd rfl hr
  | cons b r =>
    cases r with
    | nil => simp [tl, List.isPrefixOf]
    | cons c r => simp [List.isPrefixOf]
theorem run_two {pad : Bs} (hp : ∀ b ∈ pad, blankB b = true) : ∀ (n : Nat) (r : Bs) (ps : List Opn), r.length ≤ n → StackOK ps → ps ≠ [] → rootN ps = some [97] → TwoE pad (run ps (r ++ tl u1)) (run ps (r ++ tl (u2 pad)))
  | n, r, [], _, _, h, _ => absurd rfl h
  | n, r, o :: around, hn, hO, hne, hroot => by
    by_cases hr : r = []
    · subst hr
      simp only [List.nil_append]
      by_cases hname : o.name = [97]
      · obtain ⟨s1, s2⟩ := end_ok hp around hname
        cases around with
        | nil =>
          right; right
          rw [run_last s1 rfl, run_last s2 rfl]
          exact ⟨_, rfl, rfl⟩
        | cons a around =>
          left
          rw [run_step s1 (fun h => by cases h.1), run_step s2 (fun h => by cases h.1), endL_two]
          obtain ⟨k1, e1⟩ := run_blank [] { a with kids := a.kids ++ [o.elem] } around (by simp)
          obtain ⟨k2, e2⟩ := run_blank pad { a with kids := a.kids ++ [o.elem] } around hp
          rw [e1, e2]
          exact bad55 _ _
      · exact .inl (bad_of_run (end_no hp around hO.1.2.1 hname))
    · rcases step_two u1 (u2 pad) around hr hO.1.2.1 with h | ⟨ps, r1, h1, h2⟩
      · exact .inl (bad_of_run h)
      · obtain ⟨q1, q2, _⟩ := step_ok hO h1
        have hl := step_len h1
        simp only [List.length_append] at hl
        have hrt := step_root h1
        by_cases hc : around = [] ∧ [60, 47].isPrefixOf r = true
        · obtain ⟨rfl, hpre⟩ := hc
          right; left
          rw [run_last h1 ((pre_two _ hr).2 hpre), run_last h2 ((pre_two _ hr).2 hpre)]
          exact ⟨_, r1, rfl, rfl⟩
        · rw [run_step h1 (fun h => hc ⟨h.1, (pre_two _ hr).1 h.2⟩), run_step h2 (fun h => hc ⟨h.1, (pre_two _ hr).1 h.2⟩)]
          cases n with
          | zero => exact absurd (List.eq_nil_of_length_eq_zero (by omega)) hr
          | succ n => exact run_two hp n r1 ps (by omega) q1 q2 (by rw [hrt]; exact hroot)

/-! ### the two texts -/
def plainA (s : Bs) : Bs := [60, 97, 62] ++ s ++ [60, 47, 97, 62]
def headA : Bs := [60, 63, 120, 109, 108, 32, 118, 101, 114, 115, 105, 111, 110, 61, 39, 49, 46, 48, 39, 63, 62]
def beginA : Bs := [60, 97, 32, 120, 61, 34, 49, 34, 32, 121, 58, 122, 61, 39, 38, 39]
def richA (pad s : Bs) : Bs := pad ++ headA ++ pad ++ beginA ++ pad ++ [62] ++ s ++ [60, 47, 97] ++ pad ++ [62] ++ pad
theorem attrs_pad {pad : Bs} (hp : ∀ b ∈ pad, blankB b = true) (f : Nat) (r : Bs) : attrsL (f + 1) (pad ++ 62 :: r) = .ok (62 :: r) := by
  unfold attrsL
  simp only [skip_all hp, skip_gt]
  rw [if_pos (.inr rfl)]
theorem begin_rich {pad : Bs} (hp : ∀ b ∈ pad, blankB b = true) (r : Bs) : beginL 0 (beginA ++ (pad ++ 62 :: r)) = .ok ([97], true, r) := by
  unfold beginL
  rw [if_neg (by rintro ⟨h, _⟩; cases h)]
  rw [ok_bind (show wantL [60] (beginA ++ (pad ++ 62 :: r)) = .ok ((beginA ++ (pad ++ 62 :: r)).drop 1) from rfl)]
  rw [ok_bind (show nameL false ((beginA ++ (pad ++ 62 :: r)).drop 1) = .ok ([97], (beginA ++ (pad ++ 62 :: r)).drop 2) from rfl)]
  have ha : attrsL (((beginA ++ (pad ++ 62 :: r)).drop 2).length + 1) ((beginA ++ (pad ++ 62 :: r)).drop 2) = .ok (62 :: r) := by
    have hlen : ((beginA ++ (pad ++ 62 :: r)).drop 2).length = (pad ++ 62 :: r).length + 14 := by
      rw [List.length_drop, List.length_append, show beginA.length = 16 from rfl]; omega
    rw [hlen]
    generalize hX : pad ++ 62 :: r = X at *
    show attrsL (X.length + 14 + 1) (32 :: 120 :: 61 :: 34 :: 49 :: 34 :: 32 :: 121 :: 58 :: 122 :: 61 :: 39 :: 38 :: 39 :: X) = _
    have k1 : attrL (120 :: 61 :: 34 :: 49 :: 34 :: 32 :: 121 :: 58 :: 122 :: 61 :: 39 :: 38 :: 39 :: X) = .ok (32 :: 121 :: 58 :: 122 :: 61 :: 39 :: 38 :: 39 :: X) := rfl
    have k2 : attrL (121 :: 58 :: 122 :: 61 :: 39 :: 38 :: 39 :: X) = .ok X := rfl
    have s1 : ∀ f : Nat, attrsL (f + 1) (32 :: 120 :: 61 :: 34 :: 49 :: 34 :: 32 :: 121 :: 58 :: 122 :: 61 :: 39 :: 38 :: 39 :: X) = attrsL f (32 :: 121 :: 58 :: 122 :: 61 :: 39 :: 38 :: 39 :: X) := fun f => by
      conv => lhs; unfold attrsL
      have hs : skipL (32 :: 120 :: 61 :: 34 :: 49 :: 34 :: 32 :: 121 :: 58 :: 122 :: 61 :: 39 :: 38 :: 39 :: X) = 120 :: 61 :: 34 :: 49 :: 34 :: 32 :: 121 :: 58 :: 122 :: 61 :: 39 :: 38 :: 39 :: X := rfl
      simp only [hs]
      rw [if_neg (by simp), if_neg (by simp only [List.length_cons]; omega), ok_bind k1]
    have s2 : ∀ f : Nat, attrsL (f + 1) (32 :: 121 :: 58 :: 122 :: 61 :: 39 :: 38 :: 39 :: X) = attrsL f X := fun f => by
      conv => lhs; unfold attrsL
      have hs : skipL (32 :: 121 :: 58 :: 122 :: 61 :: 39 :: 38 :: 39 :: X) = 121 :: 58 :: 122 :: 61 :: 39 :: 38 :: 39 :: X := rfl
      simp only [hs]
      rw [if_neg (by simp), if_neg (by simp only [List.length_cons]; omega), ok_bind k2]
    rw [s1, show X.length + 14 = X.length + 13 + 1 from rfl, s2, ← hX, show (pad ++ 62 :: r).length + 13 = ((pad ++ 62 :: r).length + 12) + 1 from rfl, attrs_pad hp]
  simp only
  rw [ok_bind ha]
  rfl
theorem head_plain (s : Bs) : headL (plainA s) = .ok (plainA s) := rfl
theorem head_rich {pad : Bs} (hp : ∀ b ∈ pad, blankB b = true) (x : Bs) : headL (pad ++ (headA ++ (pad ++ (beginA ++ x)))) = .ok (beginA ++ x) := by
  have h1 : skipL (pad ++ (headA ++ (pad ++ (beginA ++ x)))) = headA ++ (pad ++ (beginA ++ x)) := by rw [skip_all hp]; rfl
  have h2 : skipL (pad ++ (beginA ++ x)) = beginA ++ x := by rw [skip_all hp]; rfl
  unfold headL
  simp only [h1]
  generalize hX : pad ++ (beginA ++ x) = X at *
  rw [if_pos (by rfl), ok_bind (show wantL [60, 63, 120, 109, 108] (headA ++ X) = .ok ((headA ++ X).drop 5) from rfl), ok_bind (show wantL [63, 62] (((headA ++ X).drop 5).dropWhile (fun b => decide (b ≠ 63))) = .ok X from rfl), h2]
  rfl
theorem heads_law {pad s : Bs} (hp : ∀ b ∈ pad, blankB b = true) (h50 : pad.length ≤ 50) (hs : s.length ≤ 7000) :
    (∃ c p p', (c = 55 ∨ c = 57) ∧ parseL (plainA s) = .error (c, p) ∧ parseL (richA pad s) = .error (c, p')) ∨ ∃ t, parseL (plainA s) = .ok t ∧ parseL (richA pad s) = .ok t := by
  have hl1 : ¬ 8000 < (plainA s).length := by
    simp only [plainA, List.length_append, List.length_cons, List.length_nil]; omega
  have hl2 : ¬ 8000 < (richA pad s).length := by
    simp only [richA, List.length_append, List.length_cons, List.length_nil, headA, beginA]; omega
  have h1 : textL (plainA s) = (run [opn [97]] (s ++ tl u1) >>= fun x => if skipL x.2 = [] then .ok x.1 else .error (55, (skipL x.2).length)) := by
    unfold textL
    rw [ok_bind (head_plain s)]
    have he : elementL (plainA s) = run [opn [97]] (s ++ tl u1) := by
      unfold elementL
      have hb : beginL 0 (plainA s) = .ok ([97], true, s ++ tl u1) := by
        have := begin_open (a := 0) (n := [97]) (r := s ++ tl u1) (by omega) ⟨⟨97, rfl, by decide⟩, by decide, by decide⟩
        rw [← this]
        simp [plainA, tl, u1]
      rw [ok_bind hb]
      rfl
    rw [he]
    rfl
  have h2 : textL (richA pad s) = (run [opn [97]] (s ++ tl (u2 pad)) >>= fun x => if skipL x.2 = [] then .ok x.1 else .error (55, (skipL x.2).length)) := by
    have hr : richA pad s = pad ++ (headA ++ (pad ++ (beginA ++ (pad ++ 62 :: (s ++ tl (u2 pad)))))) := by simp [richA, tl, u2]
    unfold textL
    rw [hr, ok_bind (head_rich hp _)]
    have he : elementL (beginA ++ (pad ++ 62 :: (s ++ tl (u2 pad)))) = run [opn [97]] (s ++ tl (u2 pad)) := by
      unfold elementL
      rw [ok_bind (begin_rich hp _)]
      rfl
    rw [he]
    rfl
  have hO : StackOK [opn [97]] := ⟨opn_ok (by decide) ⟨⟨97, rfl, by decide⟩, by decide, by decide⟩, trivial⟩
  have htwo := run_two hp s.length s [opn [97]] (Nat.le_refl _) hO (by simp) rfl
  have hfin : Bad2 (textL (plainA s)) (textL (richA pad s)) ∨ ∃ t, textL (plainA s) = .ok t ∧ textL (richA pad s) = .ok t := by
    rw [h1, h2]
    rcases htwo with h | ⟨t, r1, e1, e2⟩ | ⟨t, e1, e2⟩
    · exact .inl (h.bind _ _)
    · rw [ok_bind e1, ok_bind e2]
      simp only [skip_tail]
      rw [if_neg (by simp [tl]), if_neg (by simp [tl])]
      exact .inl (bad55 _ _)
    · rw [ok_bind e1, ok_bind e2]
      simp only [skip_none hp]
      exact .inr ⟨t, rfl, rfl⟩
  unfold parseL
  rw [if_neg hl1, if_neg hl2]
  rcases hfin with ⟨c, k, k', hc, e1, e2⟩ | ⟨t, e1, e2⟩
  · rw [e1, e2]
    exact .inl ⟨c, _, _, hc, rfl, rfl⟩
  · rw [e1, e2]
    exact .inr ⟨t, rfl, rfl⟩
end Go.Proofs.YtgmgghbocidibaaGreatDoor
