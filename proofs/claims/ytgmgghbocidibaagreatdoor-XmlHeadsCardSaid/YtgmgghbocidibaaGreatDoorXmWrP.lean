/-
  xml.write, plain: what is written behind what was there, and how it stops when it is long.
-/
import Derived.Test.YtgmgghbocidibaaGreatDoorXmLaw3
namespace Go.Proofs.YtgmgghbocidibaaGreatDoor

mutual
def wrT : Tree → Bs → Bs
  | .node n t ks, l => if 1000000 < l.length then l else if t.data.toList = [] ∧ ks = [] then l ++ (60 :: n.data.toList ++ [47, 62])
    else wrKs ks (l ++ (60 :: n.data.toList ++ 62 :: escL t.data.toList)) ++ (60 :: 47 :: n.data.toList ++ [62])
def wrKs : List Tree → Bs → Bs
  | [], l => l
  | k :: ks, l => wrKs ks (wrT k l)
end
/-- two texts are the same, or both are too long -/
def Alike (a b : Bs) : Prop := a = b ∨ (1000000 < a.length ∧ 1000000 < b.length)
theorem Alike.app {a b : Bs} (h : Alike a b) (c : Bs) : Alike (a ++ c) (b ++ c) := by
  rcases h with rfl | ⟨h1, h2⟩
  · exact .inl rfl
  · exact .inr ⟨by rw [List.length_append]; omega, by rw [List.length_append]; omega⟩

structure WrLaw (t : Tree) (l : Bs) : Prop where
  alike : Alike (wrT t l) (l ++ writeL t)
  low : l.length ≤ (wrT t l).length
  high : (wrT t l).length ≤ l.length + (writeL t).length
structure WrKsLaw (ks : List Tree) (l : Bs) : Prop where
  alike : Alike (wrKs ks l) (l ++ writeKids ks)
  low : l.length ≤ (wrKs ks l).length
  high : (wrKs ks l).length ≤ l.length + (writeKids ks).length
theorem wrKs_law : ∀ (ks : List Tree), (∀ k ∈ ks, ∀ l, WrLaw k l) → ∀ l, WrKsLaw ks l := by
  intro ks
  induction ks with
  | nil => intro _ l; exact ⟨.inl (by simp [wrKs, writeKids]), by simp [wrKs], by simp [wrKs]⟩
  | cons k ks ih =>
    intro h l
    have h1 := h k (by simp) l
    have h2 := ih (fun x hx => h x (by simp [hx])) (wrT k l)
    refine ⟨?_, ?_, ?_⟩
    · rcases h1.alike with e | ⟨e1, e2⟩
      · have h3 := h2.alike
        simp only [wrKs, writeKids]
        rw [show l ++ (writeL k ++ writeKids ks) = wrT k l ++ writeKids ks from by rw [e, List.append_assoc]]
        exact h3
      · refine .inr ⟨Nat.lt_of_lt_of_le e1 h2.low, ?_⟩
        simp only [writeKids, List.length_append] at e2 ⊢
        omega
    · exact Nat.le_trans h1.low h2.low
    · have h3 := h2.high
      have h4 := h1.high
      simp only [wrKs, writeKids, List.length_append] at h3 h4 ⊢
      omega
theorem wr_law : ∀ (t : Tree) (l : Bs), WrLaw t l := by
  apply treeInd
  intro n t ks ih l
  have hk := fun l => wrKs_law ks ih l
  by_cases h1 : 1000000 < l.length
  · have e : wrT (.node n t ks) l = l := by unfold wrT; exact if_pos h1
    exact ⟨by rw [e]; exact .inr ⟨h1, by rw [List.length_append]; omega⟩, by rw [e]; exact Nat.le_refl _, by rw [e]; omega⟩
  by_cases h2 : t.data.toList = [] ∧ ks = []
  · have e : wrT (.node n t ks) l = l ++ (60 :: n.data.toList ++ [47, 62]) := by unfold wrT; rw [if_neg h1, if_pos h2]
    have e2 : writeL (.node n t ks) = 60 :: n.data.toList ++ [47, 62] := by unfold writeL; rw [if_pos h2]
    exact ⟨by rw [e, e2]; exact .inl rfl, by rw [e, List.length_append]; omega, by rw [e, e2, List.length_append]; omega⟩
  · have e : wrT (.node n t ks) l = wrKs ks (l ++ (60 :: n.data.toList ++ 62 :: escL t.data.toList)) ++ (60 :: 47 :: n.data.toList ++ [62]) := by unfold wrT; rw [if_neg h1, if_neg h2]
    have e2 : writeL (.node n t ks) = (60 :: n.data.toList ++ 62 :: escL t.data.toList) ++ writeKids ks ++ (60 :: 47 :: n.data.toList ++ [62]) := by
      rw [writeL, if_neg h2]
      simp only [List.append_assoc, List.cons_append]
    have h3 := hk (l ++ (60 :: n.data.toList ++ 62 :: escL t.data.toList))
    refine ⟨?_, ?_, ?_⟩
    · have h5 := h3.alike.app (60 :: 47 :: n.data.toList ++ [62])
      rw [e, e2]
      simpa only [List.append_assoc] using h5
    · have h4 := h3.low
      rw [e, List.length_append]
      rw [List.length_append] at h4
      omega
    · have h4 := h3.high
      rw [e, e2]
      simp only [List.length_append] at h4 ⊢
      omega
/-- what is too long is told as too long, and else it is all -/
theorem wr_head (t : Tree) : (1000000 < (wrT t headC).length ↔ 1000000 < (headC ++ writeL t).length) ∧ ((headC ++ writeL t).length ≤ 1000000 → wrT t headC = headC ++ writeL t) := by
  rcases (wr_law t headC).alike with e | ⟨h1, h2⟩
  · rw [e]; exact ⟨Iff.rfl, fun _ => rfl⟩
  · exact ⟨⟨fun _ => h2, fun _ => h1⟩, fun h => absurd h2 (by omega)⟩

mutual
/-- no name and no text is beyond what the replacer was shown at -/
def SmT : Tree → Prop
  | .node n t ks => n.data.toList.length ≤ 4000000 ∧ t.data.toList.length ≤ 4000000 ∧ SmKs ks
def SmKs : List Tree → Prop
  | [] => True
  | k :: ks => SmT k ∧ SmKs ks
end
theorem SmKs.at {ks : List Tree} (h : SmKs ks) : ∀ k ∈ ks, SmT k := by
  induction ks with
  | nil => intro k hk; cases hk
  | cons x ks ih =>
    intro k hk
    unfold SmKs at h
    rcases List.mem_cons.1 hk with rfl | hk
    · exact h.1
    · exact ih h.2 k hk
theorem smKs_of {ks : List Tree} (h : ∀ k ∈ ks, SmT k) : SmKs ks := by
  induction ks with
  | nil => unfold SmKs; trivial
  | cons x ks ih => unfold SmKs; exact ⟨h x (by simp), ih fun k hk => h k (by simp [hk])⟩
theorem esc_long (l : Bs) : l.length ≤ (escL l).length := by
  induction l with
  | nil => simp
  | cons x l ih =>
    have e : escL (x :: l) = escB x ++ escL l := by simp [escL]
    have hx : 1 ≤ (escB x).length := by unfold escB; repeat' split
                                        all_goals simp
    rw [e, List.length_append, List.length_cons]
    omega
theorem kids_long {ks : List Tree} {k : Tree} (hk : k ∈ ks) : (writeL k).length ≤ (writeKids ks).length := by
  induction ks with
  | nil => cases hk
  | cons x ks ih =>
    rw [writeKids, List.length_append]
    rcases List.mem_cons.1 hk with rfl | hk
    · omega
    · have := ih hk; omega
/-- what is short as a whole is short everywhere -/
theorem sm_of_short : ∀ (t : Tree), (writeL t).length ≤ 4000000 → SmT t := by
  apply treeInd
  intro n t ks ih h
  unfold SmT
  unfold writeL at h
  have hl := esc_long t.data.toList
  split at h
  · rename_i hc
    simp only [List.length_append, List.length_cons] at h
    exact ⟨by omega, by rw [hc.1]; simp, by rw [hc.2]; unfold SmKs; trivial⟩
  · simp only [List.length_append, List.length_cons] at h
    refine ⟨by omega, by omega, smKs_of fun k hk => ih k hk ?_⟩
    have := kids_long hk
    omega
theorem write_bound : ∀ (t : Tree), SmT t → (writeL t).length ≤ cntT t * 40000000 := by
  apply treeInd
  intro n t ks ih h
  have hkids : ∀ ks' : List Tree, (∀ k ∈ ks', k ∈ ks) → (∀ k ∈ ks', SmT k) → (writeKids ks').length ≤ cntKs ks' * 40000000 := by
    intro ks'
    induction ks' with
    | nil => intro _ _; simp [writeKids]
    | cons x xs ihx =>
      intro hm hs
      have h1 := ih x (hm x (by simp)) (hs x (by simp))
      have h2 := ihx (fun k hk => hm k (by simp [hk])) (fun k hk => hs k (by simp [hk]))
      rw [writeKids, List.length_append, cntKs]
      omega
  unfold SmT at h
  have h3 := hkids ks (fun _ h => h) (SmKs.at h.2.2)
  have h4 := esc_len t.data.toList
  have h5 := h.1
  have h6 := h.2.1
  unfold writeL cntT
  split
  · simp only [List.length_append, List.length_cons, List.length_nil]
    omega
  · simp only [List.length_append, List.length_cons, List.length_nil]
    omega
theorem cntKs_at {ks : List Tree} {k : Tree} (hk : k ∈ ks) : cntT k ≤ cntKs ks := by
  induction ks with
  | nil => cases hk
  | cons x ks ih =>
    rw [cntKs]
    rcases List.mem_cons.1 hk with rfl | hk
    · omega
    · have := ih hk; omega
end Go.Proofs.YtgmgghbocidibaaGreatDoor
