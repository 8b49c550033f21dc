/-
  ListingRises, plain: what each entry of a page is.
-/
import Derived.Test.YtgklbmcnpnmkkaaDoorLsWholeP
namespace Go.Proofs.YtgklbmcnpnmkkaaDoor
open Go.RowKit Go.Lib
open Go.Op (bytesLess)

/-- does a text stand at one of the first n places? -/
def hasIn (s what : List UInt8) (n : Nat) : Bool := (List.range n).any fun j => (s.drop j).take what.length == what
theorem hasIn_zero (s what : List UInt8) : hasIn s what 0 = false := rfl
theorem hasIn_step (s what : List UInt8) (n : Nat) : hasIn s what (n + 1) = (hasIn s what n || (s.drop n).take what.length == what) := by
  unfold hasIn
  rw [List.range_succ, List.any_append, List.any_cons, List.any_nil, Bool.or_false]
/-- what an entry of a page is -/
structure RiseAt (pre delim after : List UInt8) (e : RowD) (rest : List UInt8) : Prop where
  key : e.key = pre ++ rest
  beyond : bytesLess after e.key = true
  has : delim ≠ [] → hasIn rest delim (rest.length + 1 - delim.length) = e.common
  none : delim = [] → e.common = false
theorem rise_at {l : List RowD} {pre delim after : List UInt8} {most : Int} {e : RowD} (h : e ∈ (pageL .objs l pre delim after 0 most).rows) : ∃ rest, RiseAt pre delim after e rest := by
  unfold pageL at h
  rw [page_rows] at h
  have h1 := List.mem_of_mem_take h
  obtain ⟨h2, h3⟩ := List.mem_filter.1 h1
  obtain ⟨r, hr, hent⟩ := ents_mem l rowZ e h2
  obtain ⟨rest, hk, hn, hc⟩ := ent_shape hent
  refine ⟨rest, hk, ?_, fun hd => ?_, fun hd => ?_⟩
  · unfold beyond at h3
    rw [not_le_iff] at h3
    simpa using h3
  · have hdl : 0 < delim.length := List.length_pos_iff.2 hd
    cases hcm : e.common with
    | false =>
      unfold hasIn
      rw [List.any_eq_false]
      intro j hj
      rw [List.mem_range] at hj
      have := hn hcm hd j (by omega)
      simpa using this
    | true =>
      obtain ⟨_, j, hj, hjt⟩ := hc hcm
      unfold hasIn
      rw [List.any_eq_true]
      exact ⟨j, List.mem_range.2 (by omega), by simpa using hjt⟩
  · cases hcm : e.common with
    | false => rfl
    | true => exact absurd hd (hc hcm).1
/-- one entry of a page behind another one -/
theorem rise_next {l : List RowD} {pre delim after : List UInt8} {most : Int} (hs : l.Pairwise RowLt) (ho : ∀ r ∈ l, RowOK r) {i : Nat} {a b : RowD} (ha : (pageL .objs l pre delim after 0 most).rows[i]? = some a) (hb : (pageL .objs l pre delim after 0 most).rows[i + 1]? = some b) : KeyLt a b := by
  unfold pageL at ha hb
  rw [page_rows] at ha hb
  have h1 : ((ents .objs pre delim rowZ l).filter (beyond .objs after 0) |>.take (mostN most)).Pairwise KeyLt :=
    ((keys_sorted (k := .objs) (pre := pre) (delim := delim) hs ho).filter _).sublist (List.take_sublist _ _)
  obtain ⟨hia, ha⟩ := List.getElem?_eq_some_iff.1 ha
  obtain ⟨hib, hb⟩ := List.getElem?_eq_some_iff.1 hb
  have := List.pairwise_iff_getElem.1 h1 i (i + 1) hia hib (by omega)
  rw [ha, hb] at this
  exact this
theorem objs_size {l : List RowD} {pre delim after : List UInt8} {most : Int} (hl : ∀ r ∈ l, SizeOK r) : ∀ e ∈ (pageL .objs l pre delim after 0 most).rows, SizeOK e := by
  intro e h
  unfold pageL at h
  rw [page_rows] at h
  exact ents_size hl e (List.mem_filter.1 (List.mem_of_mem_take h)).1
theorem objs_key {l : List RowD} {pre delim after : List UInt8} {most : Int} {N : Nat} (hl : ∀ r ∈ l, r.key.length ≤ N) : ∀ e ∈ (pageL .objs l pre delim after 0 most).rows, e.key.length ≤ N := by
  intro e h
  unfold pageL at h
  rw [page_rows] at h
  obtain ⟨r, hr, hent⟩ := ents_mem l rowZ e (List.mem_filter.1 (List.mem_of_mem_take h)).1
  have := hl r hr
  obtain ⟨_, s, hk, c⟩ := entOf_cases hent
  rcases c with ⟨rfl, _⟩ | ⟨n, _, _, rfl⟩
  · rw [told_key]; exact this
  · rw [hk] at this
    show (pre ++ s.take (n + delim.length)).length ≤ N
    simp only [List.length_append, List.length_take] at this ⊢
    omega
theorem objs_len {l : List RowD} {pre delim after : List UInt8} {most : Int} : (pageL .objs l pre delim after 0 most).rows.length ≤ 1000 ∧ (0 ≤ most → ((pageL .objs l pre delim after 0 most).rows.length : Int) ≤ most) := by
  have := page_rows_len .objs after 0 most (ents .objs pre delim rowZ l)
  unfold pageL
  constructor
  · have := mostN_le most; omega
  · intro h
    unfold mostN at this
    omega
theorem objs_more {l : List RowD} {pre delim after : List UInt8} {most : Int} (h : (pageL .objs l pre delim after 0 most).more = true) : (pageL .objs l pre delim after 0 most).rows.length ≠ 0 := by
  have := page_more .objs after 0 most (ents .objs pre delim rowZ l) h
  intro h2
  exact this (List.eq_nil_of_length_eq_zero h2)
end Go.Proofs.YtgklbmcnpnmkkaaDoor
