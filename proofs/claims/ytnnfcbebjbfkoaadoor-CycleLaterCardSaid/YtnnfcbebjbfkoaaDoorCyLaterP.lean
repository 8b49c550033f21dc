/-
  PLAIN: what is due stays due as time goes by, and what is due by some rules is due by more.
-/
import Derived.Test.YtnnfcbebjbfkoaaDoorCyDue2
namespace Go.Proofs.YtnnfcbebjbfkoaaDoor
open Go.RowKit

theorem behindB_mono {now later when_ n : Int} (h : now ≤ later) (hb : behindB now when_ n = true) : behindB later when_ n = true := by
  unfold behindB at *
  simp only [decide_eq_true_eq] at *
  omega
theorem lateOne_mono {vs : List VersionV} {i : Nat} {now later : Int} {r : RuleV} (h : now ≤ later) (hb : lateOne vs i now r = true) : lateOne vs i later r = true := by
  unfold lateOne at *
  split at hb
  · split at hb
    · split at hb
      · rename_i c; simp only [c, if_true]; exact hb
      · rename_i c; simp only [c]; exact behindB_mono h hb
    · cases hb
  · split at hb
    · exact behindB_mono h hb
    · cases hb

theorem dueTo_mono {rs rs' : List RuleV} {mode now later : Int} {vs : List VersionV} (hm : ∀ i, rs.any (lateOne vs i now) = true → rs'.any (lateOne vs i later) = true) :
    ∀ i, (∀ s ∈ (dueTo rs mode vs now i).1, s ∈ (dueTo rs' mode vs later i).1) ∧ ((dueTo rs mode vs now i).2 = true → (dueTo rs' mode vs later i).2 = true)
  | 0 => ⟨fun s h => by simp [dueTo] at h, fun h => by simp [dueTo] at h⟩
  | i + 1 => by
    obtain ⟨h1, h2⟩ := dueTo_mono hm i
    unfold dueTo
    split
    · rename_i v hv
      unfold dueStep
      by_cases hc : rs.any (lateOne vs i now) = true
      · have hc' := hm i hc
        rw [if_pos hc, if_pos hc']
        split
        · exact ⟨h1, fun _ => rfl⟩
        · exact ⟨fun s hs => by
            rcases List.mem_append.1 hs with hs | hs
            · exact List.mem_append_left _ (h1 s hs)
            · exact List.mem_append_right _ hs, h2⟩
      · rw [if_neg hc]
        split
        · split
          · exact ⟨h1, fun _ => rfl⟩
          · exact ⟨fun s hs => List.mem_append_left _ (h1 s hs), h2⟩
        · exact ⟨h1, h2⟩
    · exact ⟨h1, h2⟩

theorem due_later (l : List RuleV) (mode : Int) (key : ByteArray) (vs : List VersionV) {now later : Int} (h : now ≤ later) :
    (∀ s ∈ (due l mode key vs now).1, s ∈ (due l mode key vs later).1) ∧ ((due l mode key vs now).2 = true → (due l mode key vs later).2 = true) :=
  dueTo_mono (fun i hc => by
    rw [List.any_eq_true] at *
    obtain ⟨r, hr, hl⟩ := hc
    exact ⟨r, hr, lateOne_mono h hl⟩) _
theorem due_more (x : RuleV) (l : List RuleV) (mode : Int) (key : ByteArray) (vs : List VersionV) (now : Int) :
    (∀ s ∈ (due l mode key vs now).1, s ∈ (due (x :: l) mode key vs now).1) ∧ ((due l mode key vs now).2 = true → (due (x :: l) mode key vs now).2 = true) :=
  dueTo_mono (fun i hc => by
    rw [List.any_eq_true] at *
    obtain ⟨r, hr, hl⟩ := hc
    exact ⟨r, by rw [List.filter_cons]; split <;> simp [hr], hl⟩) _
theorem due_len (l : List RuleV) (mode : Int) (key : ByteArray) (vs : List VersionV) (now : Int) : (due l mode key vs now).1.length ≤ vs.length := dueTo_len _ _ _ _ _

/-- a number is among the first k -/
def among (l : List Int) (k : Nat) (x : Int) : Bool := (l.take k).any fun y => y == x
theorem among_zero (l : List Int) (x : Int) : among l 0 x = false := by simp [among]
theorem among_succ {l : List Int} {k : Nat} {y : Int} (h : l[k]? = some y) (x : Int) : among l (k + 1) x = (among l k x || y == x) := by
  have hk := (List.getElem?_eq_some_iff.1 h).1
  have : l.take (k + 1) = l.take k ++ [y] := by
    rw [List.take_succ_eq_append_getElem hk, (List.getElem?_eq_some_iff.1 h).2]
  simp [among, this]
theorem among_all {l : List Int} {x : Int} (h : x ∈ l) : among l l.length x = true := by
  simp [among, h]

/-- the world's slice v holds the numbers l -/
def IntsIn (w : World) (v : Value) (l : List Int) : Prop :=
  ∃ a c, v = .slice a l.length c ∧ (0 < l.length → ∃ b off, a = some ⟨b, off, none⟩ ∧ ∀ (i : Nat) n, l[i]? = some n → w.cell? ⟨b, off + i, none⟩ = some (.int .i64 n))
theorem IntsIn.later {w w' : World} {v : Value} {l : List Int} (h : IntsIn w v l) (hb : Below w.heap.size w w') : IntsIn w' v l := by
  obtain ⟨a, c, rfl, h⟩ := h
  refine ⟨a, c, rfl, fun hp => ?_⟩
  obtain ⟨b, off, rfl, hc⟩ := h hp
  exact ⟨b, off, rfl, fun i n hn => cell_later hb (hc i n hn)⟩
theorem IntsIn.of_own {w : World} {base : Nat} {v : Value} {l : List Int} (h : w.ownsRow base 3 1 v l.length (l.map (Value.int .i64))) : IntsIn w v l := by
  rcases h.2 with ⟨rfl, h0⟩ | ⟨g, cap, cur, rfl, hb, hg, hn, hm, hcs, ht⟩
  · exact ⟨none, 0, by rw [h0], fun hp => by omega⟩
  · refine ⟨_, _, rfl, fun _ => ⟨g, 0, rfl, fun i n hi => ?_⟩⟩
    have hlt := (List.getElem?_eq_some_iff.1 hi).1
    have h1 : (l.map (Value.int .i64))[i]? = some (.int .i64 n) := by rw [List.getElem?_map, hi]; rfl
    rw [Nat.zero_add, cell_of_heap hg, ← h1, ← ht, List.getElem?_take, if_pos (by omega), Array.getElem?_toList]

end Go.Proofs.YtnnfcbebjbfkoaaDoor
