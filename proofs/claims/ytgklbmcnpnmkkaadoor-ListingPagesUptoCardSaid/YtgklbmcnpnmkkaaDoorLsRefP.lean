/-
  LISTING, plain: the document's entries and pages are these.
-/
import Derived.Test.YtgklbmcnpnmkkaaDoorLsLawP
namespace Go.Proofs.YtgklbmcnpnmkkaaDoor
open Go.Op (bytesLess)

/-- the document's entries: behind those that are there -/
def rEnts (k : Kind) (pre delim : List UInt8) : List RowD → List RowD → List RowD
  | out, [] => out
  | out, r :: l => match entOf k pre delim r with
    | none => rEnts k pre delim out l
    | some e => if e.common && (out.getLastD rowZ).common && (out.getLastD rowZ).key == e.key then rEnts k pre delim out l else rEnts k pre delim (out ++ [e]) l
theorem rEnts_eq (k : Kind) (pre delim : List UInt8) : ∀ (l out : List RowD), rEnts k pre delim out l = out ++ ents k pre delim (out.getLastD rowZ) l
  | [], out => by simp [rEnts, ents]
  | r :: l, out => by
    unfold rEnts ents
    cases entOf k pre delim r with
    | none => exact rEnts_eq k pre delim l out
    | some e =>
      simp only
      split
      · exact rEnts_eq k pre delim l out
      · rw [rEnts_eq k pre delim l (out ++ [e])]
        simp [List.getLastD_eq_getLast?]
theorem rEnts_take (k : Kind) (pre delim : List UInt8) (l : List RowD) {i : Nat} {r : RowD} (h : l[i]? = some r) (out : List RowD) :
    rEnts k pre delim out (l.take (i + 1)) = rEnts k pre delim (rEnts k pre delim out (l.take i)) [r] := by
  have hcons : ∀ (out l : List RowD) (r : RowD), rEnts k pre delim out (r :: l) = match entOf k pre delim r with
    | none => rEnts k pre delim out l
    | some e => if e.common && (out.getLastD rowZ).common && (out.getLastD rowZ).key == e.key then rEnts k pre delim out l else rEnts k pre delim (out ++ [e]) l := fun _ _ _ => rfl
  have happ : ∀ (a b out : List RowD), rEnts k pre delim out (a ++ b) = rEnts k pre delim (rEnts k pre delim out a) b := by
    intro a
    induction a with
    | nil => intro b out; rfl
    | cons x a ih =>
      intro b out
      rw [List.cons_append, hcons, hcons]
      cases entOf k pre delim x with
      | none => exact ih b out
      | some e =>
        simp only
        split
        · exact ih b out
        · exact ih b _
  rw [List.take_add_one, h, happ]
  rfl
/-- where a text stands from a place on, as the document looks for it -/
def findFrom (s what : List UInt8) (i : Nat) : Option Nat := (indexL what (s.drop i)).map (· + i)
theorem find_here {s what : List UInt8} {i : Nat} (h : i + what.length ≤ s.length) (he : (s.drop i).take what.length = what) : findFrom s what i = some i := by
  unfold findFrom
  have hp : what.isPrefixOf (s.drop i) = true := by rw [List.isPrefixOf_iff_prefix, List.prefix_iff_eq_take]; exact he.symm
  cases hd : s.drop i with
  | nil =>
    have hw : what = [] := by rw [hd] at he; simpa using he.symm
    subst hw
    simp [indexL]
  | cons b l =>
    rw [hd] at hp
    unfold indexL
    rw [if_pos hp]
    simp
theorem find_next {s what : List UInt8} {i : Nat} (h : i + what.length ≤ s.length) (hw : what ≠ []) (he : (s.drop i).take what.length ≠ what) : findFrom s what i = findFrom s what (i + 1) := by
  have hlen : 0 < what.length := List.length_pos_iff.2 hw
  unfold findFrom
  have hlt : i < s.length := by omega
  rw [List.drop_eq_getElem_cons hlt]
  rw [List.drop_eq_getElem_cons hlt] at he
  conv => lhs; unfold indexL
  rw [if_neg (fun hp => he (by rw [List.isPrefixOf_iff_prefix, List.prefix_iff_eq_take] at hp; exact hp.symm))]
  cases indexL what (s.drop (i + 1)) with
  | none => rfl
  | some n => simp; omega
theorem find_end {s what : List UInt8} {i : Nat} (h : s.length < i + what.length) (hw : what ≠ []) : findFrom s what i = none := by
  unfold findFrom
  cases hi : indexL what (s.drop i) with
  | none => rfl
  | some n =>
    have := index_len what hw _ n hi
    have hlen : 0 < what.length := List.length_pos_iff.2 hw
    rw [List.length_drop] at this
    omega

/-- common entries have nothing but their key -/
theorem ents_common {k : Kind} {pre delim : List UInt8} {l : List RowD} {last : RowD} : ∀ e ∈ ents k pre delim last l, e.common = true → seqOf k e = 0 := by
  intro e he hc
  obtain ⟨r, _, hr⟩ := ents_mem l last e he
  obtain ⟨_, s, _, c⟩ := entOf_cases hr
  rcases c with ⟨rfl, _⟩ | ⟨n, _, _, rfl⟩
  · rw [told_common] at hc; cases hc
  · cases k <;> rfl
/-- is an entry beyond a place, as the document asks it? -/
def rBeyond (k : Kind) (after : List UInt8) (number : Int) (e : RowD) : Bool :=
  if k ≠ .objs ∧ 0 < number ∧ e.common = false ∧ e.key = after then behindN k (seqOf k e) number else bytesLess after e.key
theorem rBeyond_eq {k : Kind} {after : List UInt8} {number : Int} (hk : k = .objs → number = 0) (e : RowD) : rBeyond k after number e = beyond k after number e := by
  unfold rBeyond beyond
  rw [not_le_iff]
  by_cases h : k ≠ .objs ∧ 0 < number ∧ e.common = false ∧ e.key = after
  · rw [if_pos h]
    obtain ⟨h1, h2, h3, h4⟩ := h
    rw [h4, less_irrefl, h3, decide_eq_true h2]
    simp
  · rw [if_neg h]
    have hz : (decide (0 < number) && !e.common && e.key == after && behindN k (seqOf k e) number) = false := by
      rw [Bool.eq_false_iff]
      intro hx
      simp only [Bool.and_eq_true, decide_eq_true_eq, Bool.not_eq_true', beq_iff_eq] at hx
      obtain ⟨⟨⟨h1, h2⟩, h3⟩, h4⟩ := hx
      refine h ⟨fun he => ?_, h1, h2, h3⟩
      rw [hk he] at h1
      omega
    rw [hz, Bool.or_false]
/-- a page, entry by entry -/
def pageStep (k : Kind) (after : List UInt8) (number : Int) (m : Nat) (p : PageD) (e : RowD) : PageD :=
  if !beyond k after number e then p
  else if p.rows.length < m then { p with rows := p.rows ++ [e] }
  else if 0 < m ∧ p.more = false then ⟨p.rows, true, (p.rows.getLastD rowZ).key, if (p.rows.getLastD rowZ).common then 0 else seqOf k (p.rows.getLastD rowZ)⟩
  else p
theorem pageStep_fold {k : Kind} {after : List UInt8} {number : Int} {m : Nat} (E : List RowD) (hc : ∀ e ∈ E, e.common = true → seqOf k e = 0) :
    E.foldl (pageStep k after number m) ⟨[], false, [], 0⟩ =
      (let b := E.filter (beyond k after number); if 0 < m ∧ m < b.length then ⟨b.take m, true, ((b.take m).getLastD rowZ).key, seqOf k ((b.take m).getLastD rowZ)⟩ else ⟨b.take m, false, [], 0⟩) := by
  have key : ∀ (n : Nat), (E.take n).foldl (pageStep k after number m) ⟨[], false, [], 0⟩ =
      (let b := (E.take n).filter (beyond k after number); if 0 < m ∧ m < b.length then ⟨b.take m, true, ((b.take m).getLastD rowZ).key, seqOf k ((b.take m).getLastD rowZ)⟩ else ⟨b.take m, false, [], 0⟩) := by
    intro n
    induction n with
    | zero => simp
    | succ n ih =>
      rw [List.take_add_one]
      cases hn : E[n]? with
      | none => simpa using ih
      | some e =>
      have hF : ∀ x ∈ E.take n, x ∈ E := fun x hx => List.mem_of_mem_take hx
      obtain ⟨F, hFF⟩ : ∃ F, E.take n = F := ⟨_, rfl⟩
      rw [hFF] at ih hF ⊢
      simp only [Option.toList_some]
      rw [List.foldl_append, ih]
      simp only [List.foldl_cons, List.foldl_nil, List.filter_append, List.filter_cons, List.filter_nil]
      generalize hb : F.filter (beyond k after number) = b at *
      have hbm : ∀ x ∈ b, x ∈ E := fun x hx => by rw [← hb] at hx; exact hF x (List.mem_filter.1 hx).1
      unfold pageStep
      cases hbe : beyond k after number e with
      | false => simp
      | true =>
        simp only [Bool.not_true, Bool.false_eq_true, if_false, if_true, List.length_append, List.length_singleton]
        by_cases h1 : 0 < m ∧ m < b.length
        · rw [if_pos h1, if_pos (show 0 < m ∧ m < b.length + 1 by omega), List.take_append_of_le_length (by omega)]
          have hx : ¬ (b.take m).length < m := by rw [List.length_take]; omega
          simp only [if_neg hx]
          simp
        · rw [if_neg h1]
          by_cases h2 : b.length < m
          · have hx : (b.take m).length < m := by rw [List.length_take]; omega
            simp only [if_pos hx]
            rw [if_neg (show ¬ (0 < m ∧ m < b.length + 1) by omega), List.take_of_length_le (by omega), List.take_of_length_le (by simp; omega)]
          · have hx : ¬ (b.take m).length < m := by rw [List.length_take]; omega
            simp only [if_neg hx]
            by_cases h3 : 0 < m
            · have hbl : b.length = m := by omega
              have hlast : (if ((b.take m).getLastD rowZ).common then 0 else seqOf k ((b.take m).getLastD rowZ)) = seqOf k ((b.take m).getLastD rowZ) := by
                split
                · rename_i hcm
                  have hne : b.take m ≠ [] := by
                    intro h0
                    have := congrArg List.length h0
                    rw [List.length_take] at this
                    simp only [List.length_nil] at this
                    omega
                  have hmem : (b.take m).getLastD rowZ ∈ E := by
                    rw [List.getLastD_eq_getLast?]
                    cases hg : (b.take m).getLast? with
                    | none => exact absurd (List.getLast?_eq_none_iff.1 hg) hne
                    | some x => exact hbm x (List.take_subset _ _ (List.mem_of_getLast? hg))
                  exact (hc _ hmem hcm).symm
                · rfl
              rw [if_pos (⟨h3, trivial⟩ : 0 < m ∧ True), hlast, if_pos (show 0 < m ∧ m < b.length + 1 by omega), List.take_append_of_le_length (by omega)]
            · have hm0 : m = 0 := by omega
              subst hm0
              rw [if_neg (by omega), if_neg (by omega)]
              simp
  have := key E.length
  rw [List.take_length] at this
  exact this
end Go.Proofs.YtgklbmcnpnmkkaaDoor
