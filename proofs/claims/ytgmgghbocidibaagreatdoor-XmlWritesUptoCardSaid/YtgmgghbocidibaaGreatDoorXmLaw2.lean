/-
  XML, plain: a right element's text is read as that element.
-/
import Derived.Test.YtgmgghbocidibaaGreatDoorSm2
namespace Go.Proofs.YtgmgghbocidibaaGreatDoor
open Go.Lib

mutual
/-- is an element right, with so many around it? -/
def RightT : Nat → Tree → Prop
  | d, .node n t ks => d < 20 ∧ nameOK n.data.toList ∧ Plain t.data.toList ∧ (ks ≠ [] → t.data.toList = []) ∧ RightKs (d + 1) ks
def RightKs : Nat → List Tree → Prop
  | _, [] => True
  | d, k :: ks => RightT d k ∧ RightKs d ks
end
theorem str_list (n : ByteArray) : Bs.str n.data.toList = n := by cases n; rfl
theorem takeWhile_stop {p : UInt8 → Bool} : ∀ {n : Bs} {c : UInt8} {r : Bs}, (∀ b ∈ n, p b = true) → p c = false → (n ++ c :: r).takeWhile p = n ∧ (n ++ c :: r).dropWhile p = c :: r
  | [], c, r, _, hc => by simp [hc]
  | b :: n, c, r, h, hc => by
    have hb := h b (by simp)
    obtain ⟨h1, h2⟩ := takeWhile_stop (n := n) (r := r) (fun x hx => h x (by simp [hx])) hc
    simp only [List.cons_append, List.takeWhile_cons, List.dropWhile_cons, hb, if_true, h1]
    exact ⟨trivial, h2⟩
theorem name_pre {n : Bs} {c : UInt8} {r : Bs} (h : nameOK n) (hc : nameX false c = false) : nameL false (n ++ c :: r) = .ok (n, c :: r) := by
  obtain ⟨⟨b, hb, hf⟩, hl, hm⟩ := h
  cases n with
  | nil => cases hb
  | cons b' n =>
    have hb' : b' = b := by simpa using hb
    subst hb'
    obtain ⟨h1, h2⟩ := takeWhile_stop (p := nameX false) (n := b' :: n) (c := c) (r := r) (fun x hx => by unfold nameX; simp [hm x hx]) hc
    unfold nameL
    simp only [List.cons_append] at h1 h2 ⊢
    simp only [hf, if_true, h1, h2]
    rw [if_neg (by omega)]
theorem attrs_none {f : Nat} {c : UInt8} {r : Bs} (hc : c = 47 ∨ c = 62) : attrsL (f + 1) (c :: r) = .ok (c :: r) := by
  have hs : skipL (c :: r) = c :: r := by
    unfold skipL
    rw [List.dropWhile_cons, if_neg]
    rcases hc with rfl | rfl <;> decide
  unfold attrsL
  simp only [hs]
  rw [if_pos]
  rcases hc with rfl | rfl
  · exact .inl rfl
  · exact .inr rfl
theorem begin_open {a : Nat} {n r : Bs} (ha : a ≠ 20) (h : nameOK n) : beginL a (60 :: n ++ 62 :: r) = .ok (n, true, r) := by
  unfold beginL
  rw [if_neg (fun e => ha e.1), List.cons_append, ok_bind (show wantL [60] (60 :: (n ++ 62 :: r)) = .ok (n ++ 62 :: r) from want_pre [60] _), ok_bind (name_pre h (by decide))]
  dsimp only
  rw [ok_bind (attrs_none (.inr rfl))]
  rfl
theorem begin_shut {a : Nat} {n r : Bs} (ha : a ≠ 20) (h : nameOK n) : beginL a (60 :: n ++ 47 :: 62 :: r) = .ok (n, false, r) := by
  unfold beginL
  rw [if_neg (fun e => ha e.1), List.cons_append, ok_bind (show wantL [60] (60 :: (n ++ 47 :: 62 :: r)) = .ok (n ++ 47 :: 62 :: r) from want_pre [60] _), ok_bind (name_pre h (by decide))]
  dsimp only
  rw [ok_bind (attrs_none (.inl rfl))]
  rfl
theorem skip_gt (r : Bs) : skipL (62 :: r) = 62 :: r := by
  unfold skipL
  rw [List.dropWhile_cons, if_neg (by decide)]
/-- an element's end -/
theorem step_end (o : Opn) (around : List Opn) (r : Bs) : stepL o around (60 :: 47 :: o.name ++ 62 :: r) = .ok (endL (o :: around), r) := by
  unfold stepL
  rw [if_neg (by simp), if_pos (show (60 :: 47 :: o.name ++ 62 :: r : Bs).head? = some 60 from rfl), if_neg (by simp), if_pos (show ((60 :: 47 :: o.name ++ 62 :: r : Bs).drop 1).head? = some 47 from rfl)]
  rw [show ((60 :: 47 :: o.name ++ 62 :: r : Bs).drop 2) = o.name ++ 62 :: r from rfl, ok_bind (want_pre _ _), skip_gt, ok_bind (show wantL [62] (62 :: r) = .ok r from want_pre [62] r)]
  rfl
/-- an element's beginning, within another one -/
theorem step_begin {o : Opn} {around : List Opn} {n r r1 : Bs} {m : Bool} (ho : o.solid = false) (hn : nameOK n) (h : beginL (around.length + 1) (60 :: n ++ r) = .ok (n, m, r1)) :
    stepL o around (60 :: n ++ r) = .ok (if m then opn n :: o :: around else endL (opn n :: o :: around), r1) ∧ [60, 47].isPrefixOf (60 :: n ++ r) = false := by
  obtain ⟨⟨b, hb, hf⟩, hl, hm⟩ := hn
  cases n with
  | nil => cases hb
  | cons b' n =>
    have hb' : b' = b := by simpa using hb
    subst hb'
    have h47 : b' ≠ 47 := fun e => by rw [e] at hf; exact absurd hf (by decide)
    constructor
    · unfold stepL
      rw [if_neg (by simp), if_pos (show (60 :: b' :: n ++ r : Bs).head? = some 60 from rfl), if_neg (by simp), if_neg (by simp [h47]), if_neg (by rw [ho]; decide), ok_bind h]
      rfl
    · simp only [List.cons_append, List.isPrefixOf]
      simp [Ne.symm h47]
theorem endL_two (o a : Opn) (ps : List Opn) : endL (o :: a :: ps) = { a with kids := a.kids ++ [o.elem] } :: ps := rfl
theorem not_end {c : UInt8} {r : Bs} (hc : c ≠ 60) : [60, 47].isPrefixOf (c :: r) = false := by simp [List.isPrefixOf, Ne.symm hc]

mutual
theorem run_tree : ∀ (t : Tree) (o : Opn) (around : List Opn) (r : Bs), RightT (around.length + 1) t → o.solid = false → run (o :: around) (writeL t ++ r) = run ({ o with kids := o.kids ++ [t] } :: around) r
  | .node n t ks, o, around, r, h, ho => by
    unfold RightT at h
    obtain ⟨h1, h2, h3, h4, h5⟩ := h
    unfold writeL
    by_cases he : t.data.toList = [] ∧ ks = []
    · rw [if_pos he]
      obtain ⟨s1, s2⟩ := step_begin (around := around) (o := o) (r := 47 :: 62 :: r) ho h2 (begin_shut (by omega) h2)
      rw [show (60 :: n.data.toList ++ [47, 62] ++ r : Bs) = 60 :: n.data.toList ++ 47 :: 62 :: r by simp, run_step s1 (fun h => by rw [s2] at h; cases h.2)]
      simp only [Bool.false_eq_true, if_false, endL_two]
      have hel : (opn n.data.toList).elem = .node n t ks := by
        unfold opn Opn.elem
        simp only [if_true]
        rw [str_list, he.2, ← he.1, str_list]
      rw [hel]
    · rw [if_neg he]
      have hbody : (60 :: n.data.toList ++ 62 :: escL t.data.toList ++ writeKids ks ++ 60 :: 47 :: n.data.toList ++ [62] ++ r : Bs) = 60 :: n.data.toList ++ 62 :: (escL t.data.toList ++ (writeKids ks ++ (60 :: 47 :: n.data.toList ++ 62 :: r))) := by simp
      obtain ⟨s1, s2⟩ := step_begin (around := around) (o := o) (r := 62 :: (escL t.data.toList ++ (writeKids ks ++ (60 :: 47 :: n.data.toList ++ 62 :: r)))) ho h2 (begin_open (by omega) h2)
      rw [hbody, run_step s1 (fun h => by rw [s2] at h; cases h.2)]
      simp only [if_true]
      by_cases hk : ks = []
      · subst hk
        obtain ⟨b, hb⟩ := run_text h3 (opn n.data.toList) (o :: around) (writeKids [] ++ (60 :: 47 :: n.data.toList ++ 62 :: r)) rfl
        rw [show run (opn n.data.toList :: o :: around) (escL t.data.toList ++ (writeKids [] ++ (60 :: 47 :: n.data.toList ++ 62 :: r))) = run (⟨n.data.toList, t.data.toList, b, []⟩ :: o :: around) (writeKids [] ++ (60 :: 47 :: n.data.toList ++ 62 :: r)) from hb]
        have hs := step_end ⟨n.data.toList, t.data.toList, b, []⟩ (o :: around) r
        rw [show (writeKids [] ++ (60 :: 47 :: n.data.toList ++ 62 :: r) : Bs) = 60 :: 47 :: n.data.toList ++ 62 :: r by simp [writeKids]]
        rw [run_step hs (fun h => by cases h.1), endL_two]
        have hel : (⟨n.data.toList, t.data.toList, b, []⟩ : Opn).elem = .node n t [] := by
          unfold Opn.elem
          simp only [if_true]
          rw [str_list, str_list]
        rw [hel]
      · have ht := h4 hk
        rw [show escL t.data.toList = [] by rw [ht]; rfl, List.nil_append, show run (opn n.data.toList :: o :: around) (writeKids ks ++ (60 :: 47 :: n.data.toList ++ 62 :: r)) = run (⟨n.data.toList, [], false, ks⟩ :: o :: around) (60 :: 47 :: n.data.toList ++ 62 :: r) from run_kids ks (opn n.data.toList) (o :: around) _ h5 rfl]
        have hs := step_end ⟨n.data.toList, [], false, ks⟩ (o :: around) r
        rw [run_step hs (fun h => by cases h.1), endL_two]
        have hel : (⟨n.data.toList, [], false, ks⟩ : Opn).elem = .node n t ks := by
          unfold Opn.elem
          simp only
          rw [str_list, if_neg hk, ← ht, str_list]
        rw [hel]
theorem run_kids : ∀ (ks : List Tree) (o : Opn) (around : List Opn) (r : Bs), RightKs (around.length + 1) ks → o.solid = false → run (o :: around) (writeKids ks ++ r) = run ({ o with kids := o.kids ++ ks } :: around) r
  | [], o, around, r, _, _ => by simp [writeKids]
  | k :: ks, o, around, r, h, ho => by
    unfold RightKs at h
    unfold writeKids
    rw [List.append_assoc, run_tree k o around _ h.1 ho, run_kids ks { o with kids := o.kids ++ [k] } around r h.2 ho]
    simp
end
/-- the outermost element -/
theorem element_write {t : Tree} (h : RightT 0 t) (r : Bs) : elementL (writeL t ++ r) = .ok (t, r) := by
  cases t with
  | node n t ks =>
    unfold RightT at h
    obtain ⟨h1, h2, h3, h4, h5⟩ := h
    unfold writeL elementL
    by_cases he : t.data.toList = [] ∧ ks = []
    · rw [if_pos he, show (60 :: n.data.toList ++ [47, 62] ++ r : Bs) = 60 :: n.data.toList ++ 47 :: 62 :: r by simp, ok_bind (begin_shut (by omega) h2)]
      have hel : (opn n.data.toList).elem = .node n t ks := by
        unfold opn Opn.elem
        simp only [if_true]
        rw [str_list, he.2, ← he.1, str_list]
      simp only [Bool.false_eq_true, if_false, hel]
      rfl
    · rw [if_neg he]
      have hbody : (60 :: n.data.toList ++ 62 :: escL t.data.toList ++ writeKids ks ++ 60 :: 47 :: n.data.toList ++ [62] ++ r : Bs) = 60 :: n.data.toList ++ 62 :: (escL t.data.toList ++ (writeKids ks ++ (60 :: 47 :: n.data.toList ++ 62 :: r))) := by simp
      rw [hbody, ok_bind (begin_open (by omega) h2)]
      simp only [if_true]
      show run [opn n.data.toList] _ = _
      by_cases hk : ks = []
      · subst hk
        obtain ⟨b, hb⟩ := run_text h3 (opn n.data.toList) [] (writeKids [] ++ (60 :: 47 :: n.data.toList ++ 62 :: r)) rfl
        rw [show run ([opn n.data.toList]) (escL t.data.toList ++ (writeKids [] ++ (60 :: 47 :: n.data.toList ++ 62 :: r))) = run ([⟨n.data.toList, t.data.toList, b, []⟩]) (writeKids [] ++ (60 :: 47 :: n.data.toList ++ 62 :: r)) from hb]
        have hs := step_end ⟨n.data.toList, t.data.toList, b, []⟩ [] r
        rw [show (writeKids [] ++ (60 :: 47 :: n.data.toList ++ 62 :: r) : Bs) = 60 :: 47 :: n.data.toList ++ 62 :: r by simp [writeKids], run_last hs rfl]
        have hel : (⟨n.data.toList, t.data.toList, b, []⟩ : Opn).elem = .node n t [] := by
          unfold Opn.elem
          simp only [if_true]
          rw [str_list, str_list]
        exact congrArg (fun x => Except.ok (x, r)) hel
      · have ht := h4 hk
        rw [show escL t.data.toList = [] by rw [ht]; rfl, List.nil_append, show run ([opn n.data.toList]) (writeKids ks ++ (60 :: 47 :: n.data.toList ++ 62 :: r)) = run ([⟨n.data.toList, [], false, ks⟩]) (60 :: 47 :: n.data.toList ++ 62 :: r) from run_kids ks (opn n.data.toList) [] _ h5 rfl]
        have hs := step_end ⟨n.data.toList, [], false, ks⟩ [] r
        rw [run_last hs rfl]
        have hel : (⟨n.data.toList, [], false, ks⟩ : Opn).elem = .node n t ks := by
          unfold Opn.elem
          simp only
          rw [str_list, if_neg hk, ← ht, str_list]
        exact congrArg (fun x => Except.ok (x, r)) hel
/-- what is written ahead of it all -/
def headC : Bs := [60, 63, 120, 109, 108, 32, 118, 101, 114, 115, 105, 111, 110, 61, 34, 49, 46, 48, 34, 32, 101, 110, 99, 111, 100, 105, 110, 103, 61, 34, 85, 84, 70, 45, 56, 34, 63, 62, 10]
theorem write_head (t : Tree) : ∃ l, writeL t = 60 :: l := by
  cases t with
  | node n t ks =>
    unfold writeL
    split
    · exact ⟨_, rfl⟩
    · exact ⟨_, rfl⟩
theorem text_write {t : Tree} (h : RightT 0 t) : textL (headC ++ writeL t) = .ok t := by
  obtain ⟨l, hl⟩ := write_head t
  have hh : headL (headC ++ writeL t) = .ok (writeL t) := by
    rw [hl]
    rfl
  unfold textL
  have he := element_write h []
  rw [List.append_nil] at he
  rw [ok_bind hh, ok_bind he]
  rfl
theorem parse_write {t : Tree} (h : RightT 0 t) (hl : (headC ++ writeL t).length ≤ 8000) : parseL (headC ++ writeL t) = .ok t := by
  unfold parseL
  rw [if_neg (by omega), text_write h]
end Go.Proofs.YtgmgghbocidibaaGreatDoor
