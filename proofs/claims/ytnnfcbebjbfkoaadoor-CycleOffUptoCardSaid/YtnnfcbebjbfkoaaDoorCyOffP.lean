/-
  PLAIN: rules that are not on, or whose prefix is longer than any key, tell nothing.
-/
import Derived.Test.YtnnfcbebjbfkoaaDoorCyNext
namespace Go.Proofs.YtnnfcbebjbfkoaaDoor
open Go.RowKit

/-- the longest of some texts -/
def longest (l : List ByteArray) : Nat := l.foldl (fun n s => max n s.size) 0
theorem longest_snoc (l : List ByteArray) (s : ByteArray) : longest (l ++ [s]) = max (longest l) s.size := by simp [longest]
theorem longest_mem : ∀ (l : List ByteArray) (n : Nat), n ≤ l.foldl (fun n s => max n s.size) n ∧ ∀ s ∈ l, s.size ≤ l.foldl (fun n s => max n s.size) n
  | [], n => ⟨Nat.le_refl _, fun s h => by cases h⟩
  | x :: l, n => by
    obtain ⟨h1, h2⟩ := longest_mem l (max n x.size)
    simp only [List.foldl_cons]
    exact ⟨by omega, fun s hs => by
      rcases List.mem_cons.1 hs with rfl | hs
      · omega
      · exact h2 s hs⟩
theorem longest_le (l : List ByteArray) (n : Nat) (h : ∀ s ∈ l, s.size ≤ n) : longest l ≤ n := by
  have : ∀ (l : List ByteArray) (k : Nat), k ≤ n → (∀ s ∈ l, s.size ≤ n) → l.foldl (fun n s => max n s.size) k ≤ n := by
    intro l
    induction l with
    | nil => intro k hk _; exact hk
    | cons x l ih => intro k hk h; exact ih _ (by have := h x (by simp); show max k x.size ≤ n; omega) (fun s hs => h s (by simp [hs]))
  exact this l 0 (Nat.zero_le _) h

/-- so many x -/
def exes (n : Nat) : ByteArray := ⟨(List.replicate n 120).toArray⟩
theorem exes_size (n : Nat) : (exes n).size = n := by simp [exes, ByteArray.size]
def longer (rows : List RowV) (ups : List UploadV) : ByteArray := exes (longest (rows.map RowV.key ++ ups.map UploadV.key) + 1)

def offRule (s : ByteArray) (i : Nat) (r : RuleV) : RuleV := if i % 2 = 0 then { r with on := false } else { r with pre := s }
def offs (s : ByteArray) (l : List RuleV) : List RuleV := l.mapIdx (offRule s)
theorem offs_len (s : ByteArray) (l : List RuleV) : (offs s l).length = l.length := by simp [offs]
theorem offs_get {s : ByteArray} {l : List RuleV} {i : Nat} {r : RuleV} (h : l[i]? = some r) : (offs s l)[i]? = some (offRule s i r) := by simp [offs, h]
theorem offs_take {s : ByteArray} {l : List RuleV} {i : Nat} {r : RuleV} (h : l[i]? = some r) : (offs s l).take (i + 1) = (offs s l).take i ++ [offRule s i r] := by
  have h1 := offs_get (s := s) h
  obtain ⟨h2, h3⟩ := List.getElem?_eq_some_iff.1 h1
  rw [List.take_succ_eq_append_getElem h2, h3]
theorem offs_ok {s : ByteArray} {l : List RuleV} (h : ∀ r ∈ l, RuleOK r) : ∀ r ∈ offs s l, RuleOK r := by
  intro r hr
  obtain ⟨i, hi⟩ := List.getElem?_of_mem hr
  have hlt := (List.getElem?_eq_some_iff.1 hi).1
  rw [offs_len] at hlt
  have h1 := offs_get (s := s) (List.getElem?_eq_getElem hlt)
  rw [hi] at h1
  obtain rfl := Option.some.inj h1
  have h2 := h l[i] (List.getElem_mem _)
  unfold offRule
  split
  · exact h2
  · exact h2

theorem prefix_long {key pre : ByteArray} (h : key.size < pre.size) : Lib.hasPrefix key.data.toList pre.data.toList = false := by
  cases hc : Lib.hasPrefix key.data.toList pre.data.toList with
  | false => rfl
  | true =>
    exfalso
    have := (List.isPrefixOf_iff_prefix.1 hc).length_le
    simp only [Array.length_toList] at this
    exact Nat.lt_irrefl _ (Nat.lt_of_lt_of_le h this)

theorem offs_unfit (s : ByteArray) (l : List RuleV) (key : ByteArray) (h : key.size < s.size) : ∀ r ∈ offs s l, fitsB r key = false := by
  intro r hr
  obtain ⟨i, hi⟩ := List.getElem?_of_mem hr
  have hlt := (List.getElem?_eq_some_iff.1 hi).1
  rw [offs_len] at hlt
  have h1 := offs_get (s := s) (List.getElem?_eq_getElem hlt)
  rw [hi] at h1
  obtain rfl := Option.some.inj h1
  unfold offRule fitsB
  split
  · rfl
  · simp [prefix_long h]

theorem dueTo_none (mode : Int) (vs : List VersionV) (now : Int) : ∀ i, dueTo [] mode vs now i = ([], false)
  | 0 => rfl
  | i + 1 => by
    unfold dueTo
    rw [dueTo_none mode vs now i]
    split
    · simp [dueStep]
    · rfl
theorem due_unfit {l : List RuleV} {key : ByteArray} (h : ∀ r ∈ l, fitsB r key = false) (mode : Int) (vs : List VersionV) (now : Int) : due l mode key vs now = ([], false) := by
  unfold due
  rw [List.filter_eq_nil_iff.2 (fun r hr => by rw [h r hr]; simp), dueTo_none]

theorem behindKey_mem (key : ByteArray) : ∀ (l : List RowV) (r : RowV), r ∈ behindKey key l → r ∈ l
  | [], _, h => h
  | x :: l, r, h => by
    unfold behindKey at h
    split at h
    · exact List.mem_cons_of_mem _ (behindKey_mem key l r h)
    · exact h
theorem nextRows_off {rs : List RuleV} (mode : Int) (name : ByteArray) (now : Int) : ∀ (f : Nat) (rows : List RowV), (∀ r ∈ rows, ∀ x ∈ rs, fitsB x r.key = false) → nextRows rs mode name now f rows = none
  | 0, _, _ => by simp [nextRows]
  | f + 1, [], _ => by simp [nextRows]
  | f + 1, r :: l, h => by
    have h1 : nextKey rs mode name now r.key ((sameKey r.key (r :: l)).map RowV.ver) = none := by
      unfold nextKey
      rw [due_unfit (h r (by simp))]
      simp
    unfold nextRows
    rw [h1]
    exact nextRows_off mode name now f _ (fun x hx => h x (behindKey_mem _ _ _ hx))

theorem off_none (l : List RuleV) (mode : Int) (name : ByteArray) (rows : List RowV) (ups : List UploadV) (now : Int) : nextOf (offs (longer rows ups) l) mode name rows ups now = none := by
  have hk : ∀ s ∈ rows.map RowV.key ++ ups.map UploadV.key, s.size < (longer rows ups).size := fun s hs => by
    have := (longest_mem (rows.map RowV.key ++ ups.map UploadV.key) 0).2 s hs
    unfold longer
    rw [exes_size]
    unfold longest
    omega
  unfold nextOf
  rw [nextRows_off mode name now _ _ (fun r hr => offs_unfit _ _ _ (hk _ (List.mem_append_left _ (List.mem_map.2 ⟨r, hr, rfl⟩))))]
  simp only
  rw [List.find?_eq_none.2 (fun u hu => ?_)]
  · rfl
  · have := offs_unfit (longer rows ups) l u.key (hk _ (List.mem_append_right _ (List.mem_map.2 ⟨u, hu, rfl⟩)))
    unfold staleB
    rw [Bool.not_eq_true, List.any_eq_false]
    intro r hr
    rw [this r hr]
    simp

end Go.Proofs.YtnnfcbebjbfkoaaDoor
