/-
  The statements' own sorting, of rows as they lie.
-/
import Derived.Test.YtgklbmcnpnmkkaaDoorLsInsP
import Derived.Test.YtgklbmcnpnmkkaaDoorLsRow
namespace Go.Proofs.YtgklbmcnpnmkkaaDoor
open Go.RowKit

def fitV (p : RowV) : RowV := { p with d := fitRow p.d }
def insV (out : List RowV) (p : RowV) : List RowV :=
  if clash (fitRow p.d) (out.map RowV.d)[posOf (fitRow p.d) (out.map RowV.d)]? || decide (p.d.ver.seq < 1) then out
  else out.take (posOf (fitRow p.d) (out.map RowV.d)) ++ fitV p :: out.drop (posOf (fitRow p.d) (out.map RowV.d))
theorem insV_d (out : List RowV) (p : RowV) : (insV out p).map RowV.d = insRow (out.map RowV.d) p.d := by
  unfold insV insRow
  simp only
  rw [show (fitRow p.d).ver.seq = p.d.ver.seq from rfl]
  split
  · rfl
  · rw [List.map_append, List.map_cons, List.map_take, List.map_drop]
    rfl
theorem foldV_d : ∀ (l out : List RowV), (l.foldl insV out).map RowV.d = (l.map RowV.d).foldl insRow (out.map RowV.d)
  | [], out => rfl
  | p :: l, out => by rw [List.foldl_cons, foldV_d l, insV_d, List.map_cons, List.foldl_cons]
def sortedV (l : List RowV) : List RowV := (l.take 200).foldl insV []
theorem sortedV_d (l : List RowV) : (sortedV l).map RowV.d = sortedL (l.map RowV.d) := by
  unfold sortedV sortedL
  rw [foldV_d, List.map_take]
  rfl
theorem insV_mem {out : List RowV} {p q : RowV} (h : q ∈ insV out p) : q ∈ out ∨ q = fitV p := by
  unfold insV at h
  split at h
  · exact .inl h
  · rcases List.mem_append.1 h with h | h
    · exact .inl (List.mem_of_mem_take h)
    · rcases List.mem_cons.1 h with h | h
      · exact .inr h
      · exact .inl (List.mem_of_mem_drop h)
theorem insV_len (out : List RowV) (p : RowV) : (insV out p).length ≤ out.length + 1 := by
  unfold insV
  split
  · omega
  · simp only [List.length_append, List.length_cons, List.length_take, List.length_drop]
    omega
/-- a round of the search: where the row behind is the less one -/
theorem posOf_step {x : RowD} : ∀ {l : List RowD} {k : Nat}, k ≤ posOf x l → ∀ {y}, l[k]? = some y → rowLtB y x = true → k + 1 ≤ posOf x l
  | [], _, _, _, hy, _ => by simp at hy
  | z :: l, 0, _, y, hy, hr => by
    simp only [List.getElem?_cons_zero, Option.some.injEq] at hy
    subst hy
    unfold posOf
    rw [if_pos hr]
    omega
  | z :: l, k + 1, h, y, hy, hr => by
    unfold posOf at h ⊢
    split at h
    · rename_i hz
      rw [if_pos hz]
      have := posOf_step (x := x) (l := l) (k := k) (by omega) (by simpa using hy) hr
      omega
    · omega
theorem posOf_stop {x : RowD} : ∀ {l : List RowD} {k : Nat}, k ≤ posOf x l → (∀ y, l[k]? = some y → rowLtB y x = false) → posOf x l = k
  | [], k, h, _ => by
    have : posOf x ([] : List RowD) = 0 := rfl
    omega
  | z :: l, 0, _, hs => by
    unfold posOf
    rw [if_neg (by rw [hs z rfl]; decide)]
  | z :: l, k + 1, h, hs => by
    unfold posOf at h ⊢
    split at h
    · rename_i hz
      rw [if_pos hz]
      have := posOf_stop (x := x) (l := l) (k := k) (by omega) (fun y hy => hs y (by simpa using hy))
      omega
    · omega

end Go.Proofs.YtgklbmcnpnmkkaaDoor
