/-
  LISTING, plain: the statements' own sorting (sorted) gives rows in order.
-/
import Derived.Test.YtgklbmcnpnmkkaaDoorLsSortP
namespace Go.Proofs.YtgklbmcnpnmkkaaDoor
open Go.Op (bytesLess)

def rowLtB (a b : RowD) : Bool := bytesLess a.key b.key || (a.key == b.key && decide (b.ver.seq < a.ver.seq))
theorem rowLtB_iff (a b : RowD) : rowLtB a b = true ↔ RowLt a b := by
  unfold rowLtB RowLt
  simp
/-- where a row is put -/
def posOf (x : RowD) : List RowD → Nat
  | [] => 0
  | y :: l => if rowLtB y x then posOf x l + 1 else 0
theorem posOf_le (x : RowD) : ∀ l : List RowD, posOf x l ≤ l.length
  | [] => Nat.le_refl _
  | y :: l => by
    unfold posOf
    split
    · have := posOf_le x l; simp only [List.length_cons]; omega
    · omega
theorem posOf_take (x : RowD) : ∀ l : List RowD, ∀ y ∈ l.take (posOf x l), rowLtB y x = true
  | [], y, h => by simp [posOf] at h
  | z :: l, y, h => by
    unfold posOf at h
    split at h
    · rename_i hz
      rw [List.take_succ_cons] at h
      rcases List.mem_cons.1 h with rfl | h
      · exact hz
      · exact posOf_take x l y h
    · simp at h
theorem posOf_at (x : RowD) : ∀ (l : List RowD) (y : RowD), l[posOf x l]? = some y → rowLtB y x = false
  | [], y, h => by simp at h
  | z :: l, y, h => by
    unfold posOf at h
    split at h
    · rw [List.getElem?_cons_succ] at h
      exact posOf_at x l y h
    · rename_i hz
      simp only [List.getElem?_cons_zero, Option.some.injEq] at h
      subst h
      simpa using hz
/-- one row more -/
def fitRow (r : RowD) : RowD := { r with common := false, key := 107 :: r.key }
def clash (x : RowD) : Option RowD → Bool
  | some y => y.key == x.key && y.ver.seq == x.ver.seq
  | none => false
def insRow (out : List RowD) (r : RowD) : List RowD :=
  let x := fitRow r
  let k := posOf x out
  if clash x out[k]? || decide (x.ver.seq < 1) then out else out.take k ++ x :: out.drop k
def sortedL (l : List RowD) : List RowD := (l.take 200).foldl insRow []
theorem RowLt.trans {a b c : RowD} (h : RowLt a b) (k : RowLt b c) : RowLt a c := by
  rcases h with h | ⟨h1, h2⟩
  · rcases k with k | ⟨k1, _⟩
    · exact .inl (less_trans h k)
    · exact .inl (by rw [← k1]; exact h)
  · rcases k with k | ⟨k1, k2⟩
    · exact .inl (by rw [h1]; exact k)
    · exact .inr ⟨h1.trans k1, by omega⟩
theorem rowLt_tri {a b : RowD} (h : rowLtB a b = false) (hn : ¬ (a.key = b.key ∧ a.ver.seq = b.ver.seq)) : RowLt b a := by
  have h' : ¬ RowLt a b := fun k => by rw [(rowLtB_iff a b).2 k] at h; cases h
  rcases less_tri a.key b.key with k | k | k
  · exact absurd (.inl k) h'
  · by_cases hs : a.ver.seq = b.ver.seq
    · exact absurd ⟨k, hs⟩ hn
    · by_cases hlt : b.ver.seq < a.ver.seq
      · exact absurd (.inr ⟨k, hlt⟩) h'
      · exact .inr ⟨k.symm, by omega⟩
  · exact .inl k
theorem insRow_ok {out : List RowD} {r : RowD} (hs : out.Pairwise RowLt) (ho : ∀ y ∈ out, RowOK y) : (insRow out r).Pairwise RowLt ∧ (∀ y ∈ insRow out r, RowOK y) ∧ (insRow out r).length ≤ out.length + 1 := by
  unfold insRow
  simp only
  split
  · exact ⟨hs, ho, by omega⟩
  rename_i hc
  simp only [Bool.or_eq_true, decide_eq_true_eq, not_or] at hc
  obtain ⟨hc1, hc2⟩ := hc
  have hx : RowOK (fitRow r) := ⟨rfl, by omega, fun h => by cases h⟩
  have hlt : ∀ y ∈ out.take (posOf (fitRow r) out), RowLt y (fitRow r) := fun y hy => (rowLtB_iff _ _).1 (posOf_take _ _ y hy)
  have hgt : ∀ y ∈ out.drop (posOf (fitRow r) out), RowLt (fitRow r) y := by
    intro y hy
    cases hd : out.drop (posOf (fitRow r) out) with
    | nil => rw [hd] at hy; cases hy
    | cons z l =>
      have hz : out[posOf (fitRow r) out]? = some z := by
        have := congrArg (fun l : List RowD => l[0]?) hd
        simpa [List.getElem?_drop] using this
      have h0 : RowLt (fitRow r) z := by
        refine rowLt_tri (posOf_at _ _ z hz) fun hn => hc1 ?_
        rw [hz]
        simp [clash, hn.1, hn.2]
      rw [hd] at hy
      rcases List.mem_cons.1 hy with rfl | hy
      · exact h0
      · have hp : (out.drop (posOf (fitRow r) out)).Pairwise RowLt := hs.sublist (List.drop_sublist _ _)
        rw [hd, List.pairwise_cons] at hp
        exact h0.trans (hp.1 y hy)
  refine ⟨?_, ?_, ?_⟩
  · rw [List.pairwise_append, List.pairwise_cons]
    refine ⟨hs.sublist (List.take_sublist _ _), ⟨hgt, hs.sublist (List.drop_sublist _ _)⟩, fun a ha b hb => ?_⟩
    rcases List.mem_cons.1 hb with rfl | hb
    · exact hlt a ha
    · exact (hlt a ha).trans (hgt b hb)
  · intro y hy
    rcases List.mem_append.1 hy with hy | hy
    · exact ho y (List.mem_of_mem_take hy)
    · rcases List.mem_cons.1 hy with rfl | hy
      · exact hx
      · exact ho y (List.mem_of_mem_drop hy)
  · simp only [List.length_append, List.length_cons, List.length_take, List.length_drop]
    have := posOf_le (fitRow r) out
    omega
theorem foldl_ok : ∀ (l out : List RowD), out.Pairwise RowLt → (∀ y ∈ out, RowOK y) → (l.foldl insRow out).Pairwise RowLt ∧ (∀ y ∈ l.foldl insRow out, RowOK y) ∧ (l.foldl insRow out).length ≤ out.length + l.length
  | [], out, h1, h2 => ⟨h1, h2, by simp⟩
  | r :: l, out, h1, h2 => by
    obtain ⟨k1, k2, k3⟩ := insRow_ok (r := r) h1 h2
    obtain ⟨i1, i2, i3⟩ := foldl_ok l (insRow out r) k1 k2
    refine ⟨i1, i2, ?_⟩
    simp only [List.foldl_cons, List.length_cons]
    omega
theorem sortedL_ok (l : List RowD) : (sortedL l).Pairwise RowLt ∧ (∀ y ∈ sortedL l, RowOK y) ∧ (sortedL l).length ≤ 200 := by
  obtain ⟨h1, h2, h3⟩ := foldl_ok (l.take 200) [] List.Pairwise.nil (fun y h => by cases h)
  refine ⟨h1, h2, ?_⟩
  unfold sortedL
  rw [List.length_take] at h3
  simp only [List.length_nil] at h3
  omega
end Go.Proofs.YtgklbmcnpnmkkaaDoor
