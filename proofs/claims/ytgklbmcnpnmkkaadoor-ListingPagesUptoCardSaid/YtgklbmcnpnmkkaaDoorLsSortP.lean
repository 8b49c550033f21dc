/-
  LISTING, plain: entries of sorted versions rise; a page from where another ended goes on just there.
-/
import Derived.Test.YtgklbmcnpnmkkaaDoorSm1
namespace Go.Proofs.YtgklbmcnpnmkkaaDoor
open Go.Op (bytesLess)

/-- rows in order: by keys, of one key the newest first -/
def RowLt (a b : RowD) : Prop := bytesLess a.key b.key = true ∨ (a.key = b.key ∧ b.ver.seq < a.ver.seq)
/-- a row of a sorted list -/
def RowOK (r : RowD) : Prop := r.common = false ∧ 1 ≤ r.ver.seq ∧ r.key ≠ []
/-- entries in order -/
def EntLt (a b : RowD) : Prop := bytesLess a.key b.key = true ∨ (a.key = b.key ∧ a.common = false ∧ b.common = false ∧ b.ver.seq < a.ver.seq)
theorem EntLt.trans {a b c : RowD} (h : EntLt a b) (k : EntLt b c) : EntLt a c := by
  rcases h with h | ⟨h1, h2, h3, h4⟩
  · rcases k with k | ⟨k1, _, _, _⟩
    · exact .inl (less_trans h k)
    · exact .inl (by rw [← k1]; exact h)
  · rcases k with k | ⟨k1, k2, k3, k4⟩
    · exact .inl (by rw [h1]; exact k)
    · exact .inr ⟨h1.trans k1, h2, k3, by omega⟩
theorem isPrefixOf_take : ∀ (p l : List UInt8) (n : Nat), p.length ≤ n → p.isPrefixOf (l.take n) = p.isPrefixOf l
  | [], l, n, _ => by simp
  | b :: p, [], n, _ => by simp
  | b :: p, a :: l, 0, h => by simp at h
  | b :: p, a :: l, n + 1, h => by
    have := isPrefixOf_take p l n (by simpa using h)
    simp [List.isPrefixOf, this]
theorem isPrefixOf_len {p l : List UInt8} (h : p.isPrefixOf l = true) : p.length ≤ l.length := by
  rw [List.isPrefixOf_iff_prefix] at h
  exact h.length_le
/-- where it stands is found by what lies up to its end -/
theorem index_take (what : List UInt8) (hw : what ≠ []) : ∀ (l : List UInt8) (n : Nat), indexL what l = some n → ∀ x, indexL what (l.take (n + what.length) ++ x) = some n := by
  have hlen : 0 < what.length := List.length_pos_iff.2 hw
  intro l
  induction l with
  | nil => intro n h; simp [indexL, hw] at h
  | cons b l ih =>
    intro n h x
    unfold indexL at h
    split at h
    · rename_i hp
      injection h with h
      subst h
      rw [Nat.zero_add]
      have hpl := isPrefixOf_len hp
      obtain ⟨k, hk⟩ : ∃ k, what.length = k + 1 := ⟨what.length - 1, by omega⟩
      have e : (b :: l).take what.length ++ x = b :: (l.take k ++ x) := by rw [hk]; rfl
      rw [e]
      unfold indexL
      rw [if_pos]
      rw [← e]
      rw [List.isPrefixOf_iff_prefix] at hp ⊢
      have : (b :: l).take what.length = what := (List.prefix_iff_eq_take.1 hp).symm
      rw [this]
      exact List.prefix_append _ _
    · rename_i hp
      rw [Option.map_eq_some_iff] at h
      obtain ⟨m, hm, rfl⟩ := h
      have e : (b :: l).take (m + 1 + what.length) ++ x = b :: (l.take (m + what.length) ++ x) := by
        rw [show m + 1 + what.length = (m + what.length) + 1 from by omega]; rfl
      rw [e]
      unfold indexL
      have hml : m + what.length ≤ l.length := by
        have : ∀ (l : List UInt8) (m : Nat), indexL what l = some m → m + what.length ≤ l.length := by
          intro l
          induction l with
          | nil => intro m h; simp [indexL, hw] at h
          | cons c l ih2 =>
            intro m h
            unfold indexL at h
            split at h
            · rename_i hq
              injection h with h
              subst h
              have := isPrefixOf_len hq
              omega
            · rw [Option.map_eq_some_iff] at h
              obtain ⟨m', hm', rfl⟩ := h
              have := ih2 m' hm'
              simp only [List.length_cons]
              omega
        exact this l m hm
      rw [if_neg, ih m hm x]
      · rfl
      · intro h2
        apply hp
        rw [← isPrefixOf_take what (b :: (l.take (m + what.length) ++ x)) (what.length) (Nat.le_refl _)] at h2
        rw [← isPrefixOf_take what (b :: l) what.length (Nat.le_refl _)]
        have e3 : (b :: (l.take (m + what.length) ++ x)).take what.length = (b :: l).take what.length := by
          obtain ⟨k, hk⟩ : ∃ k, what.length = k + 1 := ⟨what.length - 1, by omega⟩
          rw [hk]
          simp only [List.take_succ_cons]
          rw [List.take_append_of_le_length (by rw [List.length_take]; omega), List.take_take]
          rw [show min k (m + (k + 1)) = k from by omega]
        rw [e3] at h2
        exact h2
theorem index_len (what : List UInt8) (hw : what ≠ []) : ∀ (l : List UInt8) (m : Nat), indexL what l = some m → m + what.length ≤ l.length := by
  intro l
  induction l with
  | nil => intro m h; simp [indexL, hw] at h
  | cons c l ih2 =>
    intro m h
    unfold indexL at h
    split at h
    · rename_i hq
      injection h with h
      subst h
      have := isPrefixOf_len hq
      omega
    · rw [Option.map_eq_some_iff] at h
      obtain ⟨m', hm', rfl⟩ := h
      have := ih2 m' hm'
      simp only [List.length_cons]
      omega
/-- what an entry of a row is -/
theorem entOf_cases {k : Kind} {pre delim : List UInt8} {r e : RowD} (h : entOf k pre delim r = some e) : r.common = false ∧ ∃ rest, r.key = pre ++ rest ∧
    ((e = told k r ∧ (delim = [] ∨ indexL delim rest = none)) ∨ (∃ n, delim ≠ [] ∧ indexL delim rest = some n ∧ e = comR (pre ++ rest.take (n + delim.length)))) := by
  unfold entOf at h
  split at h
  · cases h
  rename_i hc
  simp only [Bool.or_eq_true, Bool.not_eq_true', not_or, Bool.not_eq_true, Bool.not_eq_false] at hc
  obtain ⟨h1, h2⟩ := hc
  rw [List.isPrefixOf_iff_prefix] at h2
  obtain ⟨rest, hr⟩ := h2
  have hd : r.key.drop pre.length = rest := by rw [← hr]; simp
  rw [hd] at h
  refine ⟨h1, rest, hr.symm, ?_⟩
  by_cases hdl : delim = []
  · rw [if_pos hdl] at h
    simp only [Option.some.injEq] at h
    exact .inl ⟨h.symm, .inl hdl⟩
  · rw [if_neg hdl] at h
    cases hi : indexL delim rest with
    | none =>
      rw [hi] at h
      simp only [Option.some.injEq] at h
      exact .inl ⟨h.symm, .inr rfl⟩
    | some n =>
      rw [hi] at h
      simp only [Option.some.injEq] at h
      exact .inr ⟨n, hdl, rfl, h.symm⟩
theorem told_key (k : Kind) (r : RowD) : (told k r).key = r.key := by cases k <;> rfl
theorem told_common (k : Kind) (r : RowD) : (told k r).common = false := by cases k <;> rfl
/-- rows in order are entries in order, or the same prefix -/
theorem ent_mono {pre delim : List UInt8} {r1 r2 e1 e2 : RowD} (hr : RowLt r1 r2) (h1 : entOf .vers pre delim r1 = some e1) (h2 : entOf .vers pre delim r2 = some e2) :
    EntLt e1 e2 ∨ (e1.common = true ∧ e2.common = true ∧ e1.key = e2.key) := by
  obtain ⟨_, s1, hk1, c1⟩ := entOf_cases h1
  obtain ⟨_, s2, hk2, c2⟩ := entOf_cases h2
  have hle1 : leB e1.key r1.key := by
    rcases c1 with ⟨rfl, _⟩ | ⟨n, _, _, rfl⟩
    · rw [told_key]; exact less_irrefl _
    · show leB (pre ++ s1.take (n + delim.length)) r1.key
      have := take_le (pre.length + (n + delim.length)) r1.key
      rw [hk1, List.take_length_add_append] at this
      rw [hk1]; exact this
  have hle : leB r1.key r2.key := by
    rcases hr with h | ⟨h, _⟩
    · exact less_asymm h
    · rw [h]; exact less_irrefl _
  rcases c2 with ⟨rfl, hn2⟩ | ⟨n2, hd2, hi2, rfl⟩
  · rcases c1 with ⟨rfl, hn1⟩ | ⟨n1, hd1, hi1, rfl⟩
    · rcases hr with h | ⟨h, hs⟩
      · exact .inl (.inl h)
      · exact .inl (.inr ⟨h, rfl, rfl, hs⟩)
    · refine .inl (.inl ?_)
      have hx := leB_trans hle1 hle
      rcases leB_iff.1 hx with h | h
      · exact h
      · exfalso
        have hx2 : pre ++ s1.take (n1 + delim.length) = pre ++ s2 := by rw [← hk2]; exact h
        have hs2 : s1.take (n1 + delim.length) = s2 := List.append_cancel_left hx2
        have := index_take delim hd1 s1 n1 hi1 []
        rw [List.append_nil, hs2] at this
        rcases hn2 with h | h
        · exact hd1 h
        · rw [h] at this; cases this
  · by_cases hp : (pre ++ s2.take (n2 + delim.length)).isPrefixOf r1.key = true
    · rw [List.isPrefixOf_iff_prefix] at hp
      obtain ⟨y, hy⟩ := hp
      have hs1 : s1 = s2.take (n2 + delim.length) ++ y := by
        have : pre ++ (s2.take (n2 + delim.length) ++ y) = pre ++ s1 := by rw [← hk1, ← hy, List.append_assoc]
        exact (List.append_cancel_left this).symm
      have hi := index_take delim hd2 s2 n2 hi2 y
      rw [← hs1] at hi
      rcases c1 with ⟨rfl, hn1⟩ | ⟨n1, hd1, hi1, rfl⟩
      · rcases hn1 with h | h
        · exact absurd h hd2
        · rw [hi] at h; cases h
      · rw [hi] at hi1
        injection hi1 with hi1
        subst hi1
        refine .inr ⟨rfl, rfl, ?_⟩
        show pre ++ s1.take (n2 + delim.length) = pre ++ s2.take (n2 + delim.length)
        have hl := index_len delim hd2 s2 n2 hi2
        rw [hs1, List.take_append_of_le_length (by rw [List.length_take]; omega), List.take_take, Nat.min_self]
    · have hp' : (pre ++ s2.take (n2 + delim.length)).isPrefixOf r1.key = false := Bool.eq_false_iff.2 hp
      refine .inl (.inl ?_)
      show bytesLess e1.key (pre ++ s2.take (n2 + delim.length)) = true
      refine leB_less hle1 ?_
      have hsplit : r2.key = (pre ++ s2.take (n2 + delim.length)) ++ s2.drop (n2 + delim.length) := by rw [hk2, List.append_assoc, List.take_append_drop]
      rcases hr with h | ⟨h, _⟩
      · exact less_pre _ _ _ (by rw [← hsplit]; exact h) hp'
      · exfalso
        rw [h, hsplit] at hp'
        have : (pre ++ s2.take (n2 + delim.length)).isPrefixOf ((pre ++ s2.take (n2 + delim.length)) ++ s2.drop (n2 + delim.length)) = true := by
          rw [List.isPrefixOf_iff_prefix]; exact List.prefix_append _ _
        rw [this] at hp'; cases hp'
/-- entries of a sorted list rise -/
theorem ents_sorted {pre delim : List UInt8} : ∀ (l : List RowD) (last : RowD), l.Pairwise RowLt → (∀ r ∈ l, ∀ e, entOf .vers pre delim r = some e → EntLt last e ∨ (last.common = true ∧ e.common = true ∧ last.key = e.key)) →
    (∀ e ∈ ents .vers pre delim last l, EntLt last e) ∧ (ents .vers pre delim last l).Pairwise EntLt
  | [], _, _, _ => ⟨fun e h => (by cases h), List.Pairwise.nil⟩
  | r :: l, last, hs, hp => by
    rw [List.pairwise_cons] at hs
    obtain ⟨hs1, hs2⟩ := hs
    unfold ents
    cases he : entOf .vers pre delim r with
    | none => exact ents_sorted l last hs2 (fun r' hr' => hp r' (by simp [hr']))
    | some e =>
      simp only
      split
      · exact ents_sorted l last hs2 (fun r' hr' => hp r' (by simp [hr']))
      · rename_i hc
        have h0 : EntLt last e := by
          rcases hp r (by simp) e he with h | ⟨a, b, c⟩
          · exact h
          · exact absurd (by simp [a, b, c]) hc
        obtain ⟨i1, i2⟩ := ents_sorted l e hs2 (fun r' hr' e' he' => ent_mono (hs1 r' hr') he he')
        refine ⟨fun x hx => ?_, List.pairwise_cons.2 ⟨i1, i2⟩⟩
        rcases List.mem_cons.1 hx with rfl | hx
        · exact h0
        · exact h0.trans (i1 x hx)
theorem ents_mem {k : Kind} {pre delim : List UInt8} : ∀ (l : List RowD) (last : RowD), ∀ e ∈ ents k pre delim last l, ∃ r ∈ l, entOf k pre delim r = some e
  | [], _, e, h => by cases h
  | r :: l, last, e, h => by
    unfold ents at h
    cases he : entOf k pre delim r with
    | none =>
      rw [he] at h
      obtain ⟨r', h1, h2⟩ := ents_mem l last e h
      exact ⟨r', by simp [h1], h2⟩
    | some x =>
      rw [he] at h
      simp only at h
      split at h
      · obtain ⟨r', h1, h2⟩ := ents_mem l last e h
        exact ⟨r', by simp [h1], h2⟩
      · rcases List.mem_cons.1 h with rfl | h
        · exact ⟨r, by simp, he⟩
        · obtain ⟨r', h1, h2⟩ := ents_mem l x e h
          exact ⟨r', by simp [h1], h2⟩
theorem ents_len {k : Kind} {pre delim : List UInt8} : ∀ (l : List RowD) (last : RowD), (ents k pre delim last l).length ≤ l.length
  | [], _ => Nat.le_refl _
  | r :: l, last => by
    unfold ents
    cases entOf k pre delim r with
    | none => have := ents_len (k := k) (pre := pre) (delim := delim) l last; simp only [List.length_cons]; omega
    | some e =>
      simp only
      split
      · have := ents_len (k := k) (pre := pre) (delim := delim) l last; simp only [List.length_cons]; omega
      · have := ents_len (k := k) (pre := pre) (delim := delim) l e; simp only [List.length_cons]; omega
/-- an entry of a sorted list -/
def EntOK (e : RowD) : Prop := e.key ≠ [] ∧ (e.common = false → 1 ≤ e.ver.seq) ∧ (e.common = true → e.ver.seq = 0)
theorem entOf_ok {pre delim : List UInt8} {r e : RowD} (hr : RowOK r) (h : entOf .vers pre delim r = some e) : EntOK e := by
  obtain ⟨_, s, hk, c⟩ := entOf_cases h
  rcases c with ⟨rfl, _⟩ | ⟨n, hd, hi, rfl⟩
  · exact ⟨hr.2.2, fun _ => hr.2.1, fun h => by cases h⟩
  · refine ⟨fun h => ?_, fun h => by (cases h), fun _ => rfl⟩
    have hl := index_len delim hd s n hi
    have h0 : pre ++ s.take (n + delim.length) = [] := h
    have h1 := congrArg List.length h0
    rw [List.length_append, List.length_take] at h1
    have : 0 < delim.length := List.length_pos_iff.2 hd
    simp only [List.length_nil] at h1
    omega
structure SortedE (E : List RowD) : Prop where
  pw : E.Pairwise EntLt
  ok : ∀ e ∈ E, EntOK e
theorem sortedE {pre delim : List UInt8} {l : List RowD} (hs : l.Pairwise RowLt) (ho : ∀ r ∈ l, RowOK r) : SortedE (ents .vers pre delim rowZ l) := by
  refine ⟨(ents_sorted l rowZ hs fun r hr e he => ?_).2, fun e he => ?_⟩
  · have := entOf_ok (ho r hr) he
    refine .inl (.inl ?_)
    have hk := this.1
    show bytesLess [] e.key = true
    cases h : e.key with
    | nil => exact absurd h hk
    | cons b x => rfl
  · obtain ⟨r, hr, hre⟩ := ents_mem l rowZ e he
    exact entOf_ok (ho r hr) hre
/-- from where an entry stands, all that is behind it -/
theorem beyond_split {A B : List RowD} {e : RowD} (h : SortedE (A ++ e :: B)) : (A ++ e :: B).filter (beyond .vers e.key (seqOf .vers e)) = B := by
  have hpw := h.pw
  rw [List.pairwise_append] at hpw
  obtain ⟨_, h2, h3⟩ := hpw
  rw [List.pairwise_cons] at h2
  have he := h.ok e (by simp)
  rw [List.filter_append, List.filter_cons]
  have hA : A.filter (beyond .vers e.key (seqOf .vers e)) = [] := by
    rw [List.filter_eq_nil_iff]
    intro x hx
    unfold beyond
    rw [not_le_iff]
    rcases h3 x hx e (by simp) with h | ⟨h4, h5, h6, h7⟩
    · rw [less_asymm h]
      have := less_ne h
      simp [this]
    · have hb : behindN .vers (seqOf .vers x) (seqOf .vers e) = false := decide_eq_false (show ¬ x.ver.seq < e.ver.seq by omega)
      rw [h4, less_irrefl, hb]
      simp
  have hE : beyond .vers e.key (seqOf .vers e) e = false := by
    unfold beyond
    rw [not_le_iff, less_irrefl]
    simp [behindN]
  have hB : B.filter (beyond .vers e.key (seqOf .vers e)) = B := by
    rw [List.filter_eq_self]
    intro x hx
    unfold beyond
    rw [not_le_iff]
    rcases h2.1 x hx with h | ⟨h4, h5, h6, h7⟩
    · rw [h]; rfl
    · have := he.2.1 h5
      have hb : behindN .vers (seqOf .vers x) (seqOf .vers e) = true := decide_eq_true (show x.ver.seq < e.ver.seq from h7)
      have hd : decide (0 < seqOf .vers e) = true := decide_eq_true (show 0 < e.ver.seq by omega)
      rw [← h4, hb, hd, h6]
      simp
  rw [hA, hE, hB]
  simp
theorem beyond_all {E : List RowD} (h : SortedE E) : E.filter (beyond .vers [] 0) = E := by
  rw [List.filter_eq_self]
  intro x hx
  unfold beyond
  rw [not_le_iff]
  have := (h.ok x hx).1
  cases hk : x.key with
  | nil => exact absurd hk this
  | cons b y => rfl
end Go.Proofs.YtgklbmcnpnmkkaaDoor
