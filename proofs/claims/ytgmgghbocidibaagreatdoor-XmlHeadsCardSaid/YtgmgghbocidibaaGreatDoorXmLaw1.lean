/-
  XML, plain: what is written of a right element is read as that element.
-/
import Derived.Test.YtgmgghbocidibaaGreatDoorXmP2
namespace Go.Proofs.YtgmgghbocidibaaGreatDoor
open Go.Lib

/-- a text's first character is one that XML knows -/
def okX (l : Bs) : Bool := !((decodeL l).1 = 65533 && (decodeL l).2 = 1) && knowsX (decodeL l).1
/-- a text of characters that XML knows -/
inductive Plain : Bs → Prop
  | nil : Plain []
  | cons (l : Bs) (hne : l ≠ []) (hok : okX l = true) (h : Plain (l.drop (decodeL l).2)) : Plain l

/-- the first character's bytes alone tell it -/
theorem decode_local {l : Bs} (hne : l ≠ []) (hok : okX l = true) (x : Bs) : decodeL (l.take (decodeL l).2 ++ x) = decodeL l ∧ (decodeL l).2 ≤ l.length := by
  have hv : ¬ ((decodeL l).1 = 65533 ∧ (decodeL l).2 = 1) := by
    unfold okX at hok
    simp only [Bool.and_eq_true, Bool.not_eq_true', Bool.and_eq_false_iff, decide_eq_false_iff_not] at hok
    rintro ⟨h1, h2⟩
    rcases hok.1 with h | h
    · exact h h1
    · exact h h2
  have hl : 0 < l.length := List.length_pos_iff.2 hne
  have k0 := (l.getD 0 0).toNat_lt
  rw [decodeL_N] at hv
  rw [decodeL_N l]
  rcases decodeN_shape l.length (l.getD 0 0).toNat (l.getD 1 0).toNat (l.getD 2 0).toNat (l.getD 3 0).toNat with ⟨c, e⟩ | ⟨c1, c2, c3, cv, e⟩ | ⟨c1, c2, c3, c4, cv, cs, e⟩ | ⟨c1, c2, c3, c4, c5, cv, cw, e⟩ | e
  · rw [e]
    refine ⟨?_, hl⟩
    rw [takeA l hl, decodeL_N]
    unfold decodeN
    simp only [List.cons_append, List.getD_cons_zero]
    rw [if_pos c]
  · rw [e]
    refine ⟨?_, c2⟩
    rw [takeB l c2, decodeL_N]
    unfold decodeN
    simp only [List.cons_append, List.nil_append, List.getD_cons_zero, List.getD_cons_succ, List.length_cons]
    rw [if_neg (by omega), if_pos ⟨c1, by omega, c3⟩, if_pos cv]
  · rw [e]
    refine ⟨?_, c2⟩
    rw [takeC l c2, decodeL_N]
    unfold decodeN
    simp only [List.cons_append, List.nil_append, List.getD_cons_zero, List.getD_cons_succ, List.length_cons]
    rw [if_neg (by omega), if_neg (by omega), if_pos ⟨c1, ⟨by omega, c3⟩, by omega, c4⟩, if_pos]
    exact ⟨cv, by omega⟩
  · rw [e]
    refine ⟨?_, c2⟩
    rw [takeD l c2, decodeL_N]
    unfold decodeN
    simp only [List.cons_append, List.nil_append, List.getD_cons_zero, List.getD_cons_succ, List.length_cons]
    rw [if_neg (by omega), if_neg (by omega), if_neg (by omega), if_pos ⟨c1, ⟨by omega, c3⟩, ⟨by omega, c4⟩, by omega, c5⟩, if_pos]
    exact ⟨cv, by omega⟩
  · exact absurd ⟨by rw [e], by rw [e]⟩ hv
theorem okX_enc {l : Bs} (hne : l ≠ []) (hok : okX l = true) : encX (decodeL l).1 = l.take (decodeL l).2 := by
  refine encode_decode l hne (fun h => ?_)
  unfold okX at hok
  simp [h.1, h.2] at hok
theorem decode_small {l : Bs} (_hne : l ≠ []) (h : (l.getD 0 0).toNat < 128) : decodeL l = ((l.getD 0 0).toNat, 1) := by
  rw [decodeL_N]
  unfold decodeN
  rw [if_pos h]
/-- bytes of a character that is no single byte are none that are escaped -/
theorem esc_big {l : Bs} (_hne : l ≠ []) (hok : okX l = true) (hb : ¬ (l.getD 0 0).toNat < 128) : escL (l.take (decodeL l).2) = l.take (decodeL l).2 := by
  have key : ∀ b : UInt8, 128 ≤ b.toNat → escB b = [b] := by
    intro b hb
    unfold escB
    have h : ∀ n : UInt8, n.toNat < 128 → b ≠ n := fun n hn e => by subst e; omega
    rw [if_neg (h 38 (by decide)), if_neg (h 60 (by decide)), if_neg (h 62 (by decide)), if_neg (h 34 (by decide)), if_neg (h 13 (by decide))]
  have hv : ¬ ((decodeL l).1 = 65533 ∧ (decodeL l).2 = 1) := fun h => by
    unfold okX at hok
    simp [h.1, h.2] at hok
  rw [decodeL_N] at hv ⊢
  rcases decodeN_shape l.length (l.getD 0 0).toNat (l.getD 1 0).toNat (l.getD 2 0).toNat (l.getD 3 0).toNat with ⟨c, e⟩ | ⟨c1, c2, c3, cv, e⟩ | ⟨c1, c2, c3, c4, cv, cs, e⟩ | ⟨c1, c2, c3, c4, c5, cv, cw, e⟩ | e
  · exact absurd c hb
  · rw [e, takeB l c2]
    simp only [escL, List.flatMap_cons, List.flatMap_nil, key _ (show 128 ≤ (l.getD 0 0).toNat by omega), key _ (show 128 ≤ (l.getD 1 0).toNat by omega)]
    rfl
  · rw [e, takeC l c2]
    simp only [escL, List.flatMap_cons, List.flatMap_nil, key _ (show 128 ≤ (l.getD 0 0).toNat by omega), key _ (show 128 ≤ (l.getD 1 0).toNat by omega), key _ (show 128 ≤ (l.getD 2 0).toNat by omega)]
    rfl
  · rw [e, takeD l c2]
    simp only [escL, List.flatMap_cons, List.flatMap_nil, key _ (show 128 ≤ (l.getD 0 0).toNat by omega), key _ (show 128 ≤ (l.getD 1 0).toNat by omega), key _ (show 128 ≤ (l.getD 2 0).toNat by omega), key _ (show 128 ≤ (l.getD 3 0).toNat by omega)]
    rfl
  · exact absurd ⟨by rw [e], by rw [e]⟩ hv
/-- what & tells of what was escaped -/
theorem ref_esc {b : UInt8} (hb : b = 38 ∨ b = 60 ∨ b = 62 ∨ b = 34 ∨ b = 13) (r : Bs) : refL (escB b ++ r) = .ok ([b], r) ∧ (escB b ++ r).head? = some 38 := by
  rcases hb with rfl | rfl | rfl | rfl | rfl
  · exact ⟨rfl, rfl⟩
  · exact ⟨rfl, rfl⟩
  · exact ⟨rfl, rfl⟩
  · exact ⟨rfl, rfl⟩
  · refine ⟨?_, rfl⟩
    have h1 : numL [38, 35] 10 7 ([38, 35, 49, 51, 59] ++ r) = .inl ([13], r) := by
      unfold numL
      rw [if_pos (by rfl)]
      have ht : ([38, 35, 49, 51, 59] ++ r : Bs).drop ([38, 35] : Bs).length = 49 :: 51 :: 59 :: r := rfl
      have hw : (49 :: 51 :: 59 :: r : Bs).takeWhile (digX 10) = [49, 51] := rfl
      simp only [ht, hw]
      rw [if_neg (by simp only [List.length_cons, List.length_nil]; omega), if_pos ⟨by decide, by rfl, by rfl⟩]
      rfl
    show refL ([38, 35, 49, 51, 59] ++ r) = _
    unfold refL
    rw [show namesX.find? (fun x => x.1.isPrefixOf ([38, 35, 49, 51, 59] ++ r)) = none from rfl]
    simp only [h1]
theorem escB_other {b : UInt8} (hb : ¬ (b = 38 ∨ b = 60 ∨ b = 62 ∨ b = 34 ∨ b = 13)) : escB b = [b] := by
  unfold escB
  rw [if_neg (fun h => hb (.inl h)), if_neg (fun h => hb (.inr (.inl h))), if_neg (fun h => hb (.inr (.inr (.inl h)))), if_neg (fun h => hb (.inr (.inr (.inr (.inl h))))), if_neg (fun h => hb (.inr (.inr (.inr (.inr h)))))]
/-- a text is read as it was -/
theorem run_text {t : Bs} (h : Plain t) : ∀ (o : Opn) (around : List Opn) (r : Bs), o.kids = [] → ∃ b, run (o :: around) (escL t ++ r) = run ({ o with text := o.text ++ t, solid := b } :: around) r := by
  induction h with
  | nil => intro o around r hk; exact ⟨o.solid, by simp [escL]⟩
  | cons l hne hok hp ih =>
    intro o around r hk
    obtain ⟨hloc, hlen⟩ := decode_local hne hok (escL (l.drop (decodeL l).2) ++ r)
    have henc := okX_enc hne hok
    have hsplit : escL l = escL (l.take (decodeL l).2) ++ escL (l.drop (decodeL l).2) := by
      unfold escL
      rw [← List.flatMap_append, List.take_append_drop]
    have hpos := decodeL_width l
    by_cases hs : (l.getD 0 0) = 38 ∨ (l.getD 0 0) = 60 ∨ (l.getD 0 0) = 62 ∨ (l.getD 0 0) = 34 ∨ (l.getD 0 0) = 13
    · have hsm : (l.getD 0 0).toNat < 128 := by rcases hs with h | h | h | h | h <;> rw [h] <;> decide
      have hd := decode_small hne hsm
      have hk1 : (decodeL l).2 = 1 := by rw [hd]
      have htk : l.take (decodeL l).2 = [l.getD 0 0] := by rw [hk1, takeA l (List.length_pos_iff.2 hne)]
      obtain ⟨h1, h2⟩ := ref_esc hs (escL (l.drop (decodeL l).2) ++ r)
      have he : escL l ++ r = escB (l.getD 0 0) ++ (escL (l.drop (decodeL l).2) ++ r) := by
        rw [hsplit, htk]
        simp [escL]
      have hst : stepL o around (escL l ++ r) = .ok ({ o with solid := true, text := o.text ++ [l.getD 0 0] } :: around, escL (l.drop (decodeL l).2) ++ r) := by
        rw [he]
        unfold stepL
        rw [if_neg (by intro h0; rw [h0] at h2; cases h2), if_neg (by rw [h2]; decide)]
        simp only
        rw [if_neg (by simp [hk]), if_pos h2, h1]
        rfl
      obtain ⟨b, hb⟩ := ih { o with solid := true, text := o.text ++ [l.getD 0 0] } around r hk
      refine ⟨b, ?_⟩
      rw [run_step hst (by
        rintro ⟨_, h0⟩
        rw [he] at h0
        rw [List.isPrefixOf_iff_prefix] at h0
        obtain ⟨z, hz⟩ := h0
        rw [← hz] at h2
        cases h2), hb]
      congr 2
      simp only [List.append_assoc]
      rw [← htk, List.take_append_drop]
    · have hesc : escL (l.take (decodeL l).2) = l.take (decodeL l).2 := by
        by_cases hb : (l.getD 0 0).toNat < 128
        · have hd := decode_small hne hb
          have hk1 : (decodeL l).2 = 1 := by rw [hd]
          rw [hk1, takeA l (List.length_pos_iff.2 hne)]
          unfold escL
          rw [List.flatMap_cons, escB_other hs]
          rfl
        · exact esc_big hne hok hb
      have he : escL l ++ r = l.take (decodeL l).2 ++ (escL (l.drop (decodeL l).2) ++ r) := by rw [hsplit, hesc, List.append_assoc]
      have hhd : (escL l ++ r).head? = some (l.getD 0 0) := by
        rw [he]
        cases l with
        | nil => exact absurd rfl hne
        | cons b l =>
          obtain ⟨k, hk⟩ : ∃ k, (decodeL (b :: l)).2 = k + 1 := ⟨(decodeL (b :: l)).2 - 1, by omega⟩
          rw [hk]
          rfl
      rw [← he] at hloc
      have hst : stepL o around (escL l ++ r) = .ok ({ o with solid := o.solid || !(blankB (l.getD 0 0)), text := o.text ++ l.take (decodeL l).2 } :: around, escL (l.drop (decodeL l).2) ++ r) := by
        unfold stepL
        rw [if_neg (by intro h0; rw [h0] at hhd; cases hhd), if_neg (by rw [hhd]; intro h; injection h with h; exact hs (.inr (.inl h)))]
        simp only [hloc, hhd, Option.any_some]
        rw [if_neg (by simp [hk]), if_neg (by intro h; injection h with h; exact hs (.inl h)), if_neg, henc]
        · congr 2
          rw [he, List.drop_left' (by rw [List.length_take]; omega)]
        · unfold okX at hok
          rintro (⟨h1, h2⟩ | h1)
          · simp [h1, h2] at hok
          · simp [h1] at hok
      obtain ⟨b, hb⟩ := ih { o with solid := o.solid || !(blankB (l.getD 0 0)), text := o.text ++ l.take (decodeL l).2 } around r hk
      refine ⟨b, ?_⟩
      rw [run_step hst (by
        rintro ⟨_, h0⟩
        rw [List.isPrefixOf_iff_prefix] at h0
        obtain ⟨z, hz⟩ := h0
        rw [← hz] at hhd
        injection hhd with hhd
        exact hs (.inr (.inl hhd.symm))), hb]
      congr 2
      simp only [List.append_assoc]
      rw [List.take_append_drop]
end Go.Proofs.YtgmgghbocidibaaGreatDoor
