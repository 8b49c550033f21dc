/-
  LISTING, plain: the laws of ListingWhole, ListingRises, ListingAlone.
-/
import Derived.Test.YtgklbmcnpnmkkaaDoorLsSortP
namespace Go.Proofs.YtgklbmcnpnmkkaaDoor
open Go.Op (bytesLess)

/-- where a page begins: at the start, or behind an entry -/
def StartAt (A : List RowD) (after : List UInt8) (seq : Int) : Prop := (A = [] ∧ after = [] ∧ seq = 0) ∨ ∃ A' e, A = A' ++ [e] ∧ after = e.key ∧ seq = seqOf .vers e
theorem start_filter {A B : List RowD} {after : List UInt8} {seq : Int} (h : SortedE (A ++ B)) (hs : StartAt A after seq) : (A ++ B).filter (beyond .vers after seq) = B := by
  rcases hs with ⟨rfl, rfl, rfl⟩ | ⟨A', e, rfl, rfl, rfl⟩
  · exact beyond_all h
  · rw [List.append_assoc] at h ⊢
    exact beyond_split h
/-- a page from there -/
theorem page_from {A B : List RowD} {after : List UInt8} {seq most : Int} (h : SortedE (A ++ B)) (hs : StartAt A after seq) :
    pageOf .vers after seq most (A ++ B) = if 0 < mostN most ∧ mostN most < B.length then ⟨B.take (mostN most), true, ((B.take (mostN most)).getLastD rowZ).key, seqOf .vers ((B.take (mostN most)).getLastD rowZ)⟩ else ⟨B.take (mostN most), false, [], 0⟩ := by
  unfold pageOf
  rw [start_filter h hs]
/-- the next one begins where it ended -/
theorem start_next {A B : List RowD} {m : Nat} (hm : 0 < m) (hl : m < B.length) : StartAt (A ++ B.take m) ((B.take m).getLastD rowZ).key (seqOf .vers ((B.take m).getLastD rowZ)) := by
  have hne : B.take m ≠ [] := by
    intro h
    have := congrArg List.length h
    rw [List.length_take] at this
    simp only [List.length_nil] at this
    omega
  generalize B.take m = C at *
  have hC : ∃ C' e, C = C' ++ [e] := by
    cases C with
    | nil => exact absurd rfl hne
    | cons b l => exact ⟨(b :: l).dropLast, (b :: l).getLast (by simp), (List.dropLast_concat_getLast (by simp)).symm⟩
  obtain ⟨C', e, rfl⟩ := hC
  refine .inr ⟨A ++ C', e, by rw [List.append_assoc], ?_, ?_⟩ <;> simp [List.getLastD_eq_getLast?]
theorem page_rows_len (k : Kind) (after : List UInt8) (seq most : Int) (E : List RowD) : (pageOf k after seq most E).rows.length ≤ mostN most := by
  unfold pageOf
  simp only
  split <;> simp only [List.length_take] <;> omega
theorem page_rows (k : Kind) (after : List UInt8) (seq most : Int) (E : List RowD) : (pageOf k after seq most E).rows = (E.filter (beyond k after seq)).take (mostN most) := by
  unfold pageOf
  simp only
  split <;> rfl
theorem page_more (k : Kind) (after : List UInt8) (seq most : Int) (E : List RowD) (h : (pageOf k after seq most E).more = true) : (pageOf k after seq most E).rows ≠ [] := by
  rw [page_rows]
  unfold pageOf at h
  simp only at h
  split at h
  · rename_i hm
    intro h0
    have := congrArg List.length h0
    rw [List.length_take] at this
    simp only [List.length_nil] at this
    omega
  · cases h

/-- keys and commons are the same for each kind -/
def kc (e : RowD) : List UInt8 × Bool := (e.key, e.common)
theorem ents_kc (k1 k2 : Kind) (pre delim : List UInt8) : ∀ (l : List RowD) (a b : RowD), kc a = kc b → (ents k1 pre delim a l).map kc = (ents k2 pre delim b l).map kc
  | [], _, _, _ => rfl
  | r :: l, a, b, hab => by
    have hk : (entOf k1 pre delim r).map kc = (entOf k2 pre delim r).map kc := by
      unfold entOf
      split
      · rfl
      · split
        · simp [kc, told_key, told_common]
        · rfl
    unfold ents
    cases h1 : entOf k1 pre delim r with
    | none =>
      rw [h1] at hk
      cases h2 : entOf k2 pre delim r with
      | none => exact ents_kc k1 k2 pre delim l a b hab
      | some e2 => rw [h2] at hk; cases hk
    | some e1 =>
      rw [h1] at hk
      cases h2 : entOf k2 pre delim r with
      | none => rw [h2] at hk; cases hk
      | some e2 =>
        rw [h2] at hk
        simp only [Option.map_some, Option.some.injEq] at hk
        have hk' : e1.key = e2.key ∧ e1.common = e2.common := by simpa [kc] using hk
        have hab' : a.key = b.key ∧ a.common = b.common := by simpa [kc] using hab
        simp only
        rw [hk'.1, hk'.2, hab'.1, hab'.2]
        split
        · exact ents_kc k1 k2 pre delim l a b hab
        · simp only [List.map_cons, hk]
          rw [ents_kc k1 k2 pre delim l e1 e2 hk]
/-- keys of a page's entries in order -/
def KeyLt (a b : RowD) : Prop := bytesLess a.key b.key = true ∨ (a.key = b.key ∧ b.common = false)
theorem keys_sorted {k : Kind} {pre delim : List UInt8} {l : List RowD} (hs : l.Pairwise RowLt) (ho : ∀ r ∈ l, RowOK r) : (ents k pre delim rowZ l).Pairwise KeyLt := by
  have h1 := (sortedE (pre := pre) (delim := delim) hs ho).pw
  have h2 := ents_kc k .vers pre delim l rowZ rowZ rfl
  have h3 : ((ents .vers pre delim rowZ l).map kc).Pairwise (fun a b => bytesLess a.1 b.1 = true ∨ (a.1 = b.1 ∧ b.2 = false)) := by
    rw [List.pairwise_map]
    refine h1.imp fun {a b} h => ?_
    rcases h with h | ⟨h4, _, h6, _⟩
    · exact .inl h
    · exact .inr ⟨h4, h6⟩
  rw [← h2, List.pairwise_map] at h3
  exact h3
/-- the delimiter stands nowhere, or somewhere -/
theorem index_none (what : List UInt8) (hw : what ≠ []) : ∀ (l : List UInt8), indexL what l = none → ∀ j, j + what.length ≤ l.length → (l.drop j).take what.length ≠ what
  | [], _, j, hj, _ => by
    have : 0 < what.length := List.length_pos_iff.2 hw
    simp only [List.length_nil] at hj
    omega
  | b :: l, h, j, hj, he => by
    unfold indexL at h
    split at h
    · cases h
    · rename_i hp
      rw [Option.map_eq_none_iff] at h
      cases j with
      | zero =>
        apply hp
        rw [List.isPrefixOf_iff_prefix, List.prefix_iff_eq_take]
        exact he.symm
      | succ j => exact index_none what hw l h j (by simp only [List.length_cons] at hj; omega) he
theorem index_some (what : List UInt8) : ∀ (l : List UInt8) (n : Nat), indexL what l = some n → (l.drop n).take what.length = what
  | [], n, h => by
    unfold indexL at h
    split at h
    · rename_i hw; subst hw; simp
    · cases h
  | b :: l, n, h => by
    unfold indexL at h
    split at h
    · rename_i hp
      injection h with h
      subst h
      rw [List.isPrefixOf_iff_prefix, List.prefix_iff_eq_take] at hp
      exact hp.symm
    · rw [Option.map_eq_some_iff] at h
      obtain ⟨m, hm, rfl⟩ := h
      exact index_some what l m hm
/-- what an entry is: its key begins with the prefix; it has the delimiter behind it just if it is a common one -/
theorem ent_shape {k : Kind} {pre delim : List UInt8} {r e : RowD} (h : entOf k pre delim r = some e) : ∃ rest, e.key = pre ++ rest ∧
    (e.common = false → delim ≠ [] → ∀ j, j + delim.length ≤ rest.length → (rest.drop j).take delim.length ≠ delim) ∧ (e.common = true → delim ≠ [] ∧ ∃ j, j + delim.length ≤ rest.length ∧ (rest.drop j).take delim.length = delim) := by
  obtain ⟨_, s, hk, c⟩ := entOf_cases h
  rcases c with ⟨rfl, hn⟩ | ⟨n, hd, hi, rfl⟩
  · refine ⟨s, by rw [told_key, hk], fun _ hd => ?_, fun h => by rw [told_common] at h; cases h⟩
    rcases hn with hn | hn
    · exact absurd hn hd
    · exact index_none delim hd s hn
  · have hl := index_len delim hd s n hi
    refine ⟨s.take (n + delim.length), rfl, fun h => by (cases h), fun _ => ⟨hd, n, by rw [List.length_take]; omega, ?_⟩⟩
    have := index_some delim s n hi
    rw [List.drop_take, show n + delim.length - n = delim.length from by omega, List.take_take, Nat.min_self]
    exact this
/-- without a prefix and a delimiter: just as they stand -/
theorem ents_alone (k : Kind) : ∀ (l : List RowD) (last : RowD), (∀ r ∈ l, r.common = false) → ents k [] [] last l = l.map (told k)
  | [], _, _ => rfl
  | r :: l, last, h => by
    have h1 : entOf k [] [] r = some (told k r) := by
      unfold entOf
      rw [h r (by simp)]
      rfl
    unfold ents
    rw [h1]
    simp only [told_common, Bool.false_and, Bool.false_eq_true, if_false, List.map_cons]
    rw [ents_alone k l _ (fun r' hr' => h r' (by simp [hr']))]
/-- a page of at most a thousand, from the start: all -/
theorem page_all {E : List RowD} (h : SortedE E) (hl : E.length ≤ 1000) : pageOf .vers [] 0 1000 E = ⟨E, false, [], 0⟩ := by
  unfold pageOf
  rw [beyond_all h]
  have hm : mostN 1000 = 1000 := rfl
  simp only [hm]
  rw [if_neg (by omega), List.take_of_length_le hl]
end Go.Proofs.YtgklbmcnpnmkkaaDoor
