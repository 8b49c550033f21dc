/-
  XML, plain: what is read of a text is a right element, and its own text is not too long.
-/
import Derived.Test.YtgmgghbocidibaaGreatDoorSm4
import Derived.Test.YtgmgghbocidibaaGreatDoorXmLaw2
namespace Go.Proofs.YtgmgghbocidibaaGreatDoor
open Go.Lib

/-! ### characters by their numbers -/
theorem byte_nat (z : Int) (h0 : 0 ≤ z) (h1 : z < 256) : (z.toNat.toUInt8).toNat = z.toNat := by
  have : z.toNat < 256 := by omega
  simp [Nat.mod_eq_of_lt this]
theorem decode_enc {c : Int} (h : knowsX c = true) : decodeL (encX c) = (c.toNat, (encX c).length) ∧ encX c ≠ [] := by
  have hk : c = 9 ∨ c = 10 ∨ c = 13 ∨ (32 ≤ c ∧ c ≤ 55295) ∨ (57344 ≤ c ∧ c ≤ 65533) ∨ (65536 ≤ c ∧ c ≤ 1114111) := by
    unfold knowsX at h
    simp only [Bool.or_eq_true, Bool.and_eq_true, decide_eq_true_eq] at h
    omega
  clear h
  rw [decodeL_N]
  unfold encX encodeRune
  by_cases h1 : c ≤ 127
  · rw [encodeRuneZ_one (by omega) h1]
    simp only [List.map_cons, List.map_nil, List.getD_cons_zero, List.length_cons, List.length_nil]
    rw [byte_nat c (by omega) (by omega)]
    unfold decodeN
    rw [if_pos (by omega)]
    exact ⟨rfl, by simp⟩
  · by_cases h2 : c ≤ 2047
    · rw [encodeRuneZ_two (by omega) h2]
      simp only [List.map_cons, List.map_nil, List.getD_cons_zero, List.getD_cons_succ, List.length_cons, List.length_nil]
      rw [byte_nat (192 + c / 64) (by omega) (by omega), byte_nat (128 + c % 64) (by omega) (by omega)]
      refine ⟨?_, by simp⟩
      unfold decodeN
      rw [if_neg (by omega), if_pos ⟨by omega, by omega, by omega⟩, if_pos (by omega)]
      simp only [Prod.mk.injEq]
      exact ⟨by omega, trivial⟩
    · by_cases h3 : c ≤ 65535
      · rw [encodeRuneZ_three (by omega)]
        simp only [List.map_cons, List.map_nil, List.getD_cons_zero, List.getD_cons_succ, List.length_cons, List.length_nil]
        rw [byte_nat (224 + c / 4096) (by omega) (by omega), byte_nat (128 + c / 64 % 64) (by omega) (by omega), byte_nat (128 + c % 64) (by omega) (by omega)]
        refine ⟨?_, by simp⟩
        unfold decodeN
        rw [if_neg (by omega), if_neg (by omega), if_pos ⟨by omega, ⟨by omega, by omega⟩, by omega, by omega⟩, if_pos (by omega)]
        simp only [Prod.mk.injEq]
        exact ⟨by omega, trivial⟩
      · rw [encodeRuneZ_four (by omega) (by omega)]
        simp only [List.map_cons, List.map_nil, List.getD_cons_zero, List.getD_cons_succ, List.length_cons, List.length_nil]
        rw [byte_nat (240 + c / 262144) (by omega) (by omega), byte_nat (128 + c / 4096 % 64) (by omega) (by omega), byte_nat (128 + c / 64 % 64) (by omega) (by omega), byte_nat (128 + c % 64) (by omega) (by omega)]
        refine ⟨?_, by simp⟩
        unfold decodeN
        rw [if_neg (by omega), if_neg (by omega), if_neg (by omega), if_pos ⟨by omega, ⟨by omega, by omega⟩, ⟨by omega, by omega⟩, by omega, by omega⟩, if_pos (by omega)]
        simp only [Prod.mk.injEq]
        exact ⟨by omega, trivial⟩
theorem enc_len (c : Int) : (encX c).length ≤ 4 := by
  unfold encX encodeRune
  rw [List.length_map]
  exact (encodeRuneZ_length c).2
theorem knows_nat {c : Int} (h : knowsX c = true) : 0 ≤ c := by
  unfold knowsX at h
  simp only [Bool.or_eq_true, Bool.and_eq_true, decide_eq_true_eq] at h
  omega
theorem knows_fffd (h : knowsX 65533 = true) : True := trivial
theorem plain_enc {c : Int} (h : knowsX c = true) : Plain (encX c) := by
  obtain ⟨h1, h2⟩ := decode_enc h
  have h0 := knows_nat h
  refine .cons _ h2 ?_ ?_
  · unfold okX
    rw [h1]
    simp only [Bool.and_eq_true, Bool.not_eq_true', Bool.and_eq_false_iff, decide_eq_false_iff_not]
    rw [show ((c.toNat : Nat) : Int) = c from Int.toNat_of_nonneg h0]
    refine ⟨?_, h⟩
    by_cases hc : c = 65533
    · right
      subst hc
      decide
    · left
      omega
  · rw [h1, List.drop_length]
    exact .nil
theorem plain_append {a b : Bs} (ha : Plain a) (hb : Plain b) : Plain (a ++ b) := by
  induction ha with
  | nil => exact hb
  | cons l hne hok hp ih =>
    obtain ⟨h1, h2⟩ := decode_local hne hok (l.drop (decodeL l).2 ++ b)
    rw [← List.append_assoc, List.take_append_drop] at h1
    refine .cons _ (by simp [hne]) ?_ ?_
    · unfold okX at hok ⊢
      rw [h1]
      exact hok
    · rw [h1, List.drop_append_of_le_length h2]
      exact ih
theorem plain_dec {l : Bs} (hne : l ≠ []) (hok : okX l = true) : Plain (encX (decodeL l).1) ∧ (encX (decodeL l).1).length = (decodeL l).2 ∧ (decodeL l).2 ≤ l.length := by
  have h1 := decode_local hne hok []
  have h2 := okX_enc hne hok
  have hw := decodeL_width l
  rw [List.append_nil] at h1
  have hl : (l.take (decodeL l).2).length = (decodeL l).2 := by rw [List.length_take]; omega
  rw [h2, hl]
  refine ⟨.cons _ (by intro e; rw [e] at hl; simp only [List.length_nil] at hl; omega) ?_ ?_, rfl, h1.2⟩
  · unfold okX at hok ⊢
    rw [h1.1]
    exact hok
  · rw [h1.1, List.drop_of_length_le (by omega)]
    exact .nil
theorem esc_len (l : Bs) : (escL l).length ≤ 6 * l.length := by
  have h : ∀ b : UInt8, (escB b).length ≤ 6 := fun b => by
    unfold escB
    repeat' split
    all_goals first | decide | (simp; done)
  induction l with
  | nil => simp [escL]
  | cons b l ih =>
    have := h b
    unfold escL at ih ⊢
    rw [List.flatMap_cons, List.length_append, List.length_cons]
    omega
theorem esc_append (a b : Bs) : escL (a ++ b) = escL a ++ escL b := by unfold escL; rw [List.flatMap_append]
theorem names_plain : ∀ x ∈ namesX, Plain x.2 ∧ x.2.length ≤ 1 := by
  intro x hx
  have h : ∃ c, knowsX c = true ∧ x.2 = encX c := by
    simp only [namesX, List.mem_cons, List.not_mem_nil, or_false] at hx
    rcases hx with rfl | rfl | rfl | rfl | rfl
    · exact ⟨38, by decide, by decide⟩
    · exact ⟨60, by decide, by decide⟩
    · exact ⟨62, by decide, by decide⟩
    · exact ⟨34, by decide, by decide⟩
    · exact ⟨39, by decide, by decide⟩
  obtain ⟨c, h1, h2⟩ := h
  refine ⟨by rw [h2]; exact plain_enc h1, ?_⟩
  have := names_len x hx
  omega
theorem num_plain {hd r t r1 : Bs} {base most : Nat} (h : numL hd base most r = .inl (t, r1)) : Plain t ∧ t.length ≤ 4 := by
  unfold numL at h
  split at h
  · simp only at h
    split at h
    · cases h
    · split at h
      · rename_i h1
        injection h with h
        simp only [Prod.mk.injEq] at h
        obtain ⟨e1, _⟩ := h
        rw [← e1]
        exact ⟨plain_enc h1.2.2, enc_len _⟩
      · cases h
  · cases h
theorem ref_plain {r t r1 : Bs} (h : refL r = .ok (t, r1)) : Plain t ∧ t.length ≤ 4 := by
  unfold refL at h
  split at h
  · rename_i x hx
    injection h with h
    simp only [Prod.mk.injEq] at h
    obtain ⟨e1, _⟩ := h
    have h2 := names_plain x (List.mem_of_find?_eq_some hx)
    rw [← e1]
    exact ⟨h2.1, by omega⟩
  · simp only at h
    split at h
    · rename_i x hx
      injection h with h
      subst h
      exact num_plain hx
    · split at h
      · rename_i x hx
        injection h with h
        subst h
        exact num_plain hx
      · cases h

/-! ### open elements -/
/-- an open element within so many -/
def OpnOK (d : Nat) (o : Opn) : Prop := d < 20 ∧ nameOK o.name ∧ Plain o.text ∧ RightKs (d + 1) o.kids
def StackOK : List Opn → Prop
  | [] => True
  | o :: ps => OpnOK ps.length o ∧ StackOK ps
def opnW (o : Opn) : Nat := 2 * o.name.length + 5 + (escL o.text).length + (writeKids o.kids).length
def stackW : List Opn → Nat
  | [] => 0
  | o :: ps => opnW o + stackW ps
theorem bs_list (l : Bs) : (Bs.str l).data.toList = l := rfl
theorem elem_right {d : Nat} {o : Opn} (h : OpnOK d o) : RightT d o.elem ∧ (writeL o.elem).length ≤ opnW o := by
  obtain ⟨h1, h2, h3, h4⟩ := h
  unfold Opn.elem
  constructor
  · unfold RightT
    rw [bs_list, bs_list]
    refine ⟨h1, h2, ?_, fun hk => by rw [if_neg hk], h4⟩
    split
    · exact h3
    · exact .nil
  · unfold writeL opnW
    rw [bs_list, bs_list]
    by_cases hk : o.kids = []
    · rw [if_pos hk]
      split
      · simp only [List.cons_append, List.length_cons, List.length_append, List.length_nil]
        omega
      · simp only [List.cons_append, List.length_cons, List.length_append, List.length_nil]
        omega
    · rw [if_neg hk, if_neg (fun e => hk e.2)]
      simp only [List.cons_append, List.length_cons, List.length_append, List.length_nil, escL, List.flatMap_nil]
      omega
theorem rightKs_append {d : Nat} : ∀ {a b : List Tree}, RightKs d a → RightKs d b → RightKs d (a ++ b)
  | [], b, _, hb => hb
  | k :: a, b, ha, hb => by
    unfold RightKs at ha
    show RightKs d (k :: (a ++ b))
    unfold RightKs
    exact ⟨ha.1, rightKs_append ha.2 hb⟩
theorem writeKids_append : ∀ (a b : List Tree), writeKids (a ++ b) = writeKids a ++ writeKids b
  | [], b => by simp [writeKids]
  | k :: a, b => by
    show writeKids (k :: (a ++ b)) = _
    simp only [writeKids, writeKids_append a b, List.append_assoc]
theorem endL_ok {ps : List Opn} (h : StackOK ps) : StackOK (endL ps) ∧ stackW (endL ps) ≤ stackW ps ∧ (ps ≠ [] → endL ps ≠ []) := by
  match ps, h with
  | [], h => exact ⟨h, Nat.le_refl _, fun h => h⟩
  | [o], h => exact ⟨h, Nat.le_refl _, fun h => h⟩
  | o :: a :: ps, h =>
    obtain ⟨h1, h2, h3⟩ := h
    obtain ⟨e1, e2⟩ := elem_right h1
    rw [endL_two]
    refine ⟨⟨⟨h2.1, h2.2.1, h2.2.2.1, rightKs_append h2.2.2.2 ?_⟩, h3⟩, ?_, fun _ => by simp⟩
    · unfold RightKs
      exact ⟨e1, by unfold RightKs; trivial⟩
    · simp only [stackW, opnW, writeKids_append, List.length_append] at *
      have : (writeKids [o.elem]).length = (writeL o.elem).length := by simp [writeKids]
      omega
theorem opn_ok {d : Nat} {n : Bs} (hd : d < 20) (hn : nameOK n) : OpnOK d (opn n) := ⟨hd, hn, .nil, by unfold opn RightKs; trivial⟩
theorem opn_w (n : Bs) : opnW (opn n) = 2 * n.length + 5 := by simp [opnW, opn, escL, writeKids]
theorem nameOK_pos {n : Bs} (h : nameOK n) : 1 ≤ n.length := by
  obtain ⟨⟨b, hb, _⟩, _⟩ := h
  cases n with
  | nil => cases hb
  | cons => simp
/-- a step keeps what is open right, and grows it by what it reads -/
theorem step_ok {o : Opn} {around ps : List Opn} {r r1 : Bs} (h : StackOK (o :: around)) (hs : stepL o around r = .ok (ps, r1)) : StackOK ps ∧ ps ≠ [] ∧ stackW ps + 6 * r1.length ≤ stackW (o :: around) + 6 * r.length := by
  have hlen := step_len hs
  unfold stepL at hs
  split at hs
  · cases hs
  · rename_i hne
    split at hs
    · split at hs
      · cases hs
      · split at hs
        · obtain ⟨r1', hw, hs⟩ := bind_ok hs
          obtain ⟨r2, hw2, hs⟩ := bind_ok hs
          injection hs with hs
          simp only [Prod.mk.injEq] at hs
          obtain ⟨e1, e2⟩ := hs
          subst e1 e2
          obtain ⟨h1, h2, h3⟩ := endL_ok h
          exact ⟨h1, h3 (by simp), by omega⟩
        · split at hs
          · cases hs
          · obtain ⟨⟨n, m, r2⟩, hb, hs⟩ := bind_ok hs
            injection hs with hs
            simp only [Prod.mk.injEq] at hs
            obtain ⟨e1, e2⟩ := hs
            subst e2
            obtain ⟨b1, b2, b3, b4⟩ := begin_ok hb
            have hd : around.length + 1 < 20 := by have := h.1.1; omega
            have hn := nameOK_pos b3
            have hN : StackOK (opn n :: o :: around) := ⟨opn_ok hd b3, h⟩
            have hW : stackW (opn n :: o :: around) = 2 * n.length + 5 + stackW (o :: around) := by simp only [stackW, opn_w]
            obtain ⟨h1, h2, h3⟩ := endL_ok hN
            cases m with
            | true =>
              simp only [if_true] at e1 b1
              rw [← e1]
              exact ⟨hN, by simp, by omega⟩
            | false =>
              simp only [Bool.false_eq_true, if_false] at e1 b1
              rw [← e1]
              exact ⟨h1, h3 (by simp), by omega⟩
    · simp only at hs
      split at hs
      · cases hs
      · split at hs
        · obtain ⟨⟨t, r2⟩, hb, hs⟩ := bind_ok hs
          injection hs with hs
          simp only [Prod.mk.injEq] at hs
          obtain ⟨e1, e2⟩ := hs
          subst e1 e2
          obtain ⟨p1, p2⟩ := ref_plain hb
          have hl := ref_len hb
          have hE := esc_len t
          refine ⟨⟨⟨h.1.1, h.1.2.1, plain_append h.1.2.2.1 p1, h.1.2.2.2⟩, h.2⟩, by simp, ?_⟩
          simp only [stackW, opnW, esc_append, List.length_append]
          omega
        · split at hs
          · cases hs
          · rename_i hok
            injection hs with hs
            simp only [Prod.mk.injEq] at hs
            obtain ⟨e1, e2⟩ := hs
            subst e1 e2
            have hok' : okX r = true := by
              unfold okX
              simp only [not_or, Bool.not_eq_false] at hok
              rw [Bool.and_eq_true, Bool.not_eq_true', Bool.and_eq_false_iff, decide_eq_false_iff_not, decide_eq_false_iff_not]
              refine ⟨?_, hok.2⟩
              by_cases c : (decodeL r).1 = 65533
              · exact .inr fun c2 => hok.1 ⟨by rw [c], c2⟩
              · exact .inl c
            obtain ⟨p1, p2, p3⟩ := plain_dec hne hok'
            have hE := esc_len (encX (decodeL r).1)
            refine ⟨⟨⟨h.1.1, h.1.2.1, plain_append h.1.2.2.1 p1, h.1.2.2.2⟩, h.2⟩, by simp, ?_⟩
            simp only [stackW, opnW, esc_append, List.length_append, List.length_drop]
            omega
theorem step_last {o : Opn} {ps : List Opn} {r r1 : Bs} (hs : stepL o [] r = .ok (ps, r1)) (hp : [60, 47].isPrefixOf r = true) : ps = [o] := by
  obtain ⟨x, rfl⟩ := List.isPrefixOf_iff_prefix.1 hp
  unfold stepL at hs
  rw [if_neg (by simp), if_pos (by rfl), if_neg (by simp), if_pos (by rfl)] at hs
  obtain ⟨r1', hw, hs⟩ := bind_ok hs
  obtain ⟨r2, hw2, hs⟩ := bind_ok hs
  injection hs with hs
  simp only [Prod.mk.injEq] at hs
  exact hs.1.symm
theorem runL_ok : ∀ (f : Nat) (ps : List Opn) (r : Bs) (t : Tree) (r1 : Bs), StackOK ps → runL f ps r = .ok (t, r1) → RightT 0 t ∧ (writeL t).length + 6 * r1.length ≤ stackW ps + 6 * r.length
  | 0, ps, r, t, r1, _, h => by cases ps <;> cases h
  | f + 1, [], r, t, r1, _, h => by cases h
  | f + 1, o :: around, r, t, r1, hO, h => by
    unfold runL at h
    obtain ⟨⟨ps, r2⟩, hs, h⟩ := bind_ok h
    obtain ⟨s1, s2, s3⟩ := step_ok hO hs
    simp only at h
    split at h
    · rename_i hc
      obtain ⟨rfl, hp⟩ := hc
      have e := step_last hs hp
      subst e
      injection h with h
      simp only [Prod.mk.injEq] at h
      obtain ⟨e1, e2⟩ := h
      subst e1 e2
      obtain ⟨q1, q2⟩ := elem_right s1.1
      refine ⟨q1, ?_⟩
      simp only [stackW] at s3 ⊢
      omega
    · obtain ⟨q1, q2⟩ := runL_ok f ps r2 t r1 s1 h
      exact ⟨q1, by omega⟩
theorem element_ok {r r1 : Bs} {t : Tree} (h : elementL r = .ok (t, r1)) : RightT 0 t ∧ (writeL t).length + 6 * r1.length ≤ 6 * r.length := by
  unfold elementL at h
  obtain ⟨⟨n, m, r2⟩, hb, h⟩ := bind_ok h
  obtain ⟨b1, b2, b3, b4⟩ := begin_ok hb
  have hO := opn_ok (d := 0) (by omega) b3
  have hw := opn_w n
  have hn := nameOK_pos b3
  cases m with
  | true =>
    simp only [if_true] at h b1
    obtain ⟨q1, q2⟩ := runL_ok _ [opn n] r2 t r1 ⟨hO, trivial⟩ h
    refine ⟨q1, ?_⟩
    simp only [stackW] at q2
    omega
  | false =>
    simp only [Bool.false_eq_true, if_false] at h b1
    injection h with h
    simp only [Prod.mk.injEq] at h
    obtain ⟨e1, e2⟩ := h
    subst e1 e2
    obtain ⟨q1, q2⟩ := elem_right hO
    exact ⟨q1, by omega⟩
theorem head_len {s r : Bs} (h : headL s = .ok r) : r.length ≤ s.length := by
  unfold headL at h
  have h0 := skip_len s
  simp only at h
  split at h
  · obtain ⟨r1, h1, h⟩ := bind_ok h
    obtain ⟨r2, h2, h⟩ := bind_ok h
    injection h with h
    subst h
    have l1 := want_len h1
    have l2 := want_len h2
    have l3 := skip_len r2
    have l4 := (List.dropWhile_sublist (fun b : UInt8 => decide (b ≠ 63)) (l := r1)).length_le
    omega
  · injection h with h
    subst h
    exact h0
theorem text_ok {s : Bs} {t : Tree} (h : textL s = .ok t) : RightT 0 t ∧ (writeL t).length ≤ 6 * s.length := by
  unfold textL at h
  obtain ⟨r1, h1, h⟩ := bind_ok h
  obtain ⟨⟨e, r2⟩, h2, h⟩ := bind_ok h
  have l1 := head_len h1
  obtain ⟨q1, q2⟩ := element_ok h2
  simp only at h
  split at h
  · injection h with h
    subst h
    exact ⟨q1, by omega⟩
  · cases h
theorem parse_ok {s : Bs} {t : Tree} (h : parseL s = .ok t) : RightT 0 t ∧ (writeL t).length ≤ 48000 := by
  unfold parseL at h
  split at h
  · cases h
  · split at h
    · rename_i e he
      injection h with h
      subst h
      obtain ⟨q1, q2⟩ := text_ok he
      exact ⟨q1, by omega⟩
    · cases h

/-! ### how many there are -/
mutual
def cntT : Tree → Nat
  | .node _ _ ks => 1 + cntKs ks
def cntKs : List Tree → Nat
  | [] => 0
  | k :: ks => cntT k + cntKs ks
end
mutual
theorem cnt_le : ∀ (t : Tree) (d : Nat), RightT d t → 4 * cntT t ≤ (writeL t).length
  | .node n t ks, d, h => by
    unfold RightT at h
    have hn := nameOK_pos h.2.1
    have hk := cntKs_le ks (d + 1) h.2.2.2.2
    unfold cntT writeL
    split
    · rename_i e
      rw [e.2]
      simp only [cntKs, List.cons_append, List.length_cons, List.length_append, List.length_nil]
      omega
    · simp only [List.cons_append, List.length_cons, List.length_append, List.length_nil]
      omega
theorem cntKs_le : ∀ (ks : List Tree) (d : Nat), RightKs d ks → 4 * cntKs ks ≤ (writeKids ks).length
  | [], d, _ => by simp [cntKs]
  | k :: ks, d, h => by
    unfold RightKs at h
    have h1 := cnt_le k d h.1
    have h2 := cntKs_le ks d h.2
    unfold cntKs writeKids
    rw [List.length_append]
    omega
end
theorem nameOK_iff (n : Bs) : nameOK n ↔ ¬ (n = [] ∨ 100 < n.length ∨ firstX (n.headD 0) = false) ∧ ¬ n.any (fun b => !moreX b) = true := by
  unfold nameOK
  cases n with
  | nil => simp
  | cons b n =>
    constructor
    · rintro ⟨⟨b', hb, hf⟩, hl, hm⟩
      have hb' : b = b' := by simpa using hb
      subst hb'
      refine ⟨?_, ?_⟩
      · rintro (h | h | h)
        · cases h
        · omega
        · have h' : firstX b = false := h
          rw [hf] at h'; cases h'
      · intro h
        obtain ⟨x, hx, hx2⟩ := List.any_eq_true.1 h
        rw [hm x hx] at hx2; cases hx2
    · rintro ⟨h1, h2⟩
      refine ⟨⟨b, rfl, ?_⟩, ?_, ?_⟩
      · cases hf : firstX b with
        | true => rfl
        | false => exact absurd (.inr (.inr hf)) h1
      · apply Nat.le_of_not_lt
        intro h
        exact h1 (.inr (.inl h))
      · intro x hx
        cases hm : moreX x with
        | true => rfl
        | false => exact absurd (List.any_eq_true.2 ⟨x, hx, by rw [hm]; rfl⟩) h2
theorem cnt_pos (t : Tree) : 1 ≤ cntT t := by cases t; unfold cntT; omega
/-- the program's word and the plain one -/
theorem rightX_iff : ∀ (t : Tree) (ar : Nat) (lf : Int), ar ≤ 20 → 0 ≤ lf → ((rightX t ar lf).1 = true ↔ RightT ar t ∧ (cntT t : Int) ≤ lf) ∧ ((rightX t ar lf).1 = true → (rightX t ar lf).2 = lf - cntT t) := by
  apply treeInd
  intro n t ks ih ar lf ha h0
  have hk : ∀ (ks' : List Tree) (lf : Int), ar + 1 ≤ 20 → (∀ k ∈ ks', k ∈ ks) → 0 ≤ lf → ((rightKsX ks' (ar + 1) lf).1 = true ↔ RightKs (ar + 1) ks' ∧ (cntKs ks' : Int) ≤ lf) ∧ ((rightKsX ks' (ar + 1) lf).1 = true → (rightKsX ks' (ar + 1) lf).2 = lf - cntKs ks') := by
    intro ks'
    induction ks' with
    | nil =>
      intro lf _ _ h
      simp only [rightKsX, RightKs, cntKs]
      exact ⟨⟨fun _ => ⟨trivial, by simpa using h⟩, fun _ => trivial⟩, fun _ => by simp⟩
    | cons k ks' ihk =>
      intro lf h20 hm h
      obtain ⟨h1, h2⟩ := ih k (hm k (by simp)) (ar + 1) lf h20 h
      simp only [rightKsX, RightKs, cntKs]
      cases hb : (rightX k (ar + 1) lf).1 with
      | true =>
        obtain ⟨q1, q2⟩ := h1.1 hb
        have q3 := h2 hb
        obtain ⟨h4, h5⟩ := ihk (lf - cntT k) h20 (fun x hx => hm x (by simp [hx])) (by omega)
        rw [q3]
        simp only [if_true]
        refine ⟨?_, fun e => ?_⟩
        · rw [h4]
          constructor
          · rintro ⟨a, b⟩; exact ⟨⟨q1, a⟩, by push_cast; omega⟩
          · rintro ⟨⟨_, a⟩, b⟩; exact ⟨a, by push_cast at b; omega⟩
        · have := h5 e
          rw [this]; push_cast; omega
      | false =>
        simp only [Bool.false_eq_true, if_false]
        refine ⟨⟨fun e => e.elim, ?_⟩, fun e => e.elim⟩
        rintro ⟨⟨a, _⟩, b⟩
        have := h1.2 ⟨a, by push_cast at b; omega⟩
        rw [hb] at this; cases this
  have hN := nameOK_iff n.data.toList
  have hP := plainX_iff t.data.toList
  have hc : (cntT (.node n t ks) : Int) = 1 + (cntKs ks : Int) := by unfold cntT; push_cast; rfl
  rw [hc]
  unfold RightT
  simp only [rightX]
  split
  · rename_i c
    refine ⟨⟨fun e => by simp at e, ?_⟩, fun e => by simp at e⟩
    rintro ⟨⟨a1, a2, a3, a4, a5⟩, b⟩
    exfalso
    obtain ⟨n1, n2⟩ := hN.1 a2
    rcases c with c | c | c | c | c | c
    · omega
    · omega
    · exact n1 (.inl c)
    · exact n1 (.inr (.inl c))
    · exact n1 (.inr (.inr c))
    · exact c.2 (a4 (by intro e; rw [e] at c; simp at c))
  · rename_i c
    split
    · rename_i c2
      refine ⟨⟨fun e => by simp at e, ?_⟩, fun e => by simp at e⟩
      rintro ⟨⟨a1, a2, a3, a4, a5⟩, b⟩
      exfalso
      obtain ⟨n1, n2⟩ := hN.1 a2
      rcases c2 with c2 | c2
      · exact n2 c2
      · rw [hP.2 a3] at c2; cases c2
    · rename_i c2
      obtain ⟨h4, h5⟩ := hk ks (lf - 1) (by omega) (fun _ h => h) (by omega)
      refine ⟨?_, fun e => by rw [h5 e]; omega⟩
      rw [h4]
      constructor
      · rintro ⟨a, b⟩
        refine ⟨⟨by omega, hN.2 ⟨fun e => c ?_, fun e => c2 (.inl e)⟩, hP.1 ?_, fun e => ?_, a⟩, by omega⟩
        · rcases e with e | e | e
          · exact .inr (.inr (.inl e))
          · exact .inr (.inr (.inr (.inl e)))
          · exact .inr (.inr (.inr (.inr (.inl e))))
        · cases hx : plainX t.data.toList with
          | true => rfl
          | false => exact absurd (.inr hx) c2
        · apply Classical.byContradiction
          intro e2
          exact c (.inr (.inr (.inr (.inr (.inr ⟨List.length_pos_iff.2 e, e2⟩)))))
      · rintro ⟨⟨a1, a2, a3, a4, a5⟩, b⟩
        exact ⟨a5, by omega⟩
def okTX (t : Tree) : Bool := (rightX t 0 20000).1
theorem okT_iff (t : Tree) : okTX t = true ↔ RightT 0 t ∧ cntT t ≤ 20000 := by
  unfold okTX
  rw [(rightX_iff t 0 20000 (by omega) (by omega)).1]
  constructor
  · rintro ⟨a, b⟩; exact ⟨a, by omega⟩
  · rintro ⟨a, b⟩; exact ⟨a, by omega⟩
/-- what is read may be written -/
theorem parse_okT {s : Bs} {t : Tree} (h : parseL s = .ok t) : okTX t = true ∧ RightT 0 t ∧ (headC ++ writeL t).length ≤ 1000000 := by
  obtain ⟨h1, h2⟩ := parse_ok h
  have h3 := cnt_le t 0 h1
  refine ⟨(okT_iff t).2 ⟨h1, by omega⟩, h1, ?_⟩
  rw [List.length_append, show headC.length = 39 from rfl]
  omega
end Go.Proofs.YtgmgghbocidibaaGreatDoor
