/-
  sorted: what its walk keeps.
-/
import Derived.Test.YtgklbmcnpnmkkaaDoorLsSortV
import Derived.Test.YtgklbmcnpnmkkaaDoorLsExP
namespace Go.Proofs.YtgklbmcnpnmkkaaDoor
open Go.RowKit Go.Lib

/-- between two rounds of sorted -/
structure SrtAt (w wr : World) (ps : List RowV) (i : Nat) (qs : List RowV) (v : Value) : Prop where
  own : wr.ownsRow w.heap.size 36 18 v qs.length (qs.map RowV.cells).flatten
  eq : qs = (ps.take i).foldl insV []
  len : qs.length ≤ i
  below : Below w.heap.size w wr
theorem SrtAt.mem {w wr : World} {ps : List RowV} {i : Nat} {qs : List RowV} {v : Value} (h : SrtAt w wr ps i qs v) : ∀ q ∈ qs, ∃ p ∈ ps, q = fitV p := by
  have hf : ∀ (l out : List RowV), (∀ q ∈ out, ∃ p ∈ ps, q = fitV p) → (∀ p ∈ l, p ∈ ps) → ∀ q ∈ l.foldl insV out, ∃ p ∈ ps, q = fitV p := by
    intro l
    induction l with
    | nil => intro out ho _; exact ho
    | cons p l ih =>
      intro out ho hl
      rw [List.foldl_cons]
      refine ih _ (fun q hq => ?_) (fun p hp => hl p (List.mem_cons_of_mem _ hp))
      rcases insV_mem hq with h1 | h1
      · exact ho q h1
      · exact ⟨p, hl p List.mem_cons_self, h1⟩
  rw [h.eq]
  exact hf _ _ (fun q hq => by cases hq) (fun p hp => List.mem_of_mem_take hp)
theorem SrtAt.rowsIn {w wr W : World} {ps : List RowV} {i : Nat} {qs : List RowV} {v va : Value} (h : SrtAt w wr ps i qs v) (hr : RowsIn w va ps) (hi : i ≤ 200) (hb : Below wr.heap.size wr W) : RowsIn W v qs := by
  have hl := h.len
  have h0 : SlAt wr 18 v (qs.map RowV.cells) := own_slAt (by rw [List.length_map]; exact h.own) (fun r hr => by obtain ⟨_, _, rfl⟩ := List.mem_map.1 hr; rfl) (by rw [List.length_map]; omega)
  refine ⟨h0.later hb, fun q hq => ?_⟩
  obtain ⟨p, hp, rfl⟩ := h.mem q hq
  have h1 := ((hr.rows p hp).later h.below).later hb
  exact ⟨h1.blobs, h1.parts⟩
theorem below_two {g : Nat} {x y z : World} (hg : x.heap.size = g) (h : Below g x y) (k : Below y.heap.size y z) : Below x.heap.size x z := by
  subst hg
  exact h.trans (k.mono h.size)
theorem rows_ones {w : World} {v : Value} {qs l : List RowV} (h : RowsIn w v qs) (hl : ∀ q ∈ l, q ∈ qs) : ∀ u ∈ (l.map RowV.cells).flatten, u.oneCell' = true := by
  intro u hu
  obtain ⟨c, hc, hu⟩ := List.mem_flatten.1 hu
  obtain ⟨q, hq, rfl⟩ := List.mem_map.1 hc
  have := (h.rows q (hl q hq)).ones
  simp only [List.all_toArray, List.all_eq_true] at this
  exact this u hu
theorem SrtAt.skip {w wr wc : World} {ps : List RowV} {i : Nat} {qs : List RowV} {v : Value} {p : RowV} (h : SrtAt w wr ps i qs v) (hp : ps[i]? = some p) (hi : insV qs p = qs) (hb : Below wr.heap.size wr wc) : SrtAt w wc ps (i + 1) qs v := by
  refine ⟨own_later h.own hb, ?_, by have := h.len; omega, h.below.trans (hb.mono h.below.size)⟩
  rw [List.take_add_one, hp, Option.toList_some, List.foldl_append, List.foldl_cons, List.foldl_nil, ← h.eq, hi]
theorem own_cells {w : World} {base g c n : Nat} {e : TypeId} {sz : Nat} {xs : List Value} (h : w.ownsRow base e sz (.slice (some ⟨g, 0, none⟩) n c) n xs) {j : Nat} {u : Value} (hj : xs[j]? = some u) : w.cell? ⟨g, j, none⟩ = some u := by
  rcases h.2 with ⟨h1, _⟩ | ⟨g', cap, cur, h1, hb, hg, hn, hm, hcs, ht⟩
  · cases h1
  · injection h1 with h1 h2 h3
    injection h1 with h1
    injection h1 with h1 _ _
    subst h1
    rw [← ht] at hj
    have hlt := (List.getElem?_eq_some_iff.1 hj).1
    rw [List.length_take] at hlt
    rw [List.getElem?_take, if_pos (by omega), Array.getElem?_toList] at hj
    exact (cell_of_heap hg).trans hj
theorem rows_len (l : List RowV) (n : Nat) (h : l.length = n) : (l.map RowV.cells).flatten.length = n * 18 := by
  rw [flatten_len (sz := 18) (fun r hr => by obtain ⟨_, _, rfl⟩ := List.mem_map.1 hr; rfl), List.length_map, h]
theorem SrtAt.ins {w wr wc w9 : World} {ps : List RowV} {i k : Nat} {qs : List RowV} {v v' : Value} {p : RowV} (h : SrtAt w wr ps i qs v) (hp : ps[i]? = some p) (hi : insV qs p = qs.take k ++ fitV p :: qs.drop k) (hk : k ≤ qs.length) (hb : Below wr.heap.size wr wc) (hb9 : Below wc.heap.size wc w9)
    (hown : w9.ownsRow wc.heap.size 36 18 v' (k + 1 + (qs.length - k)) (((qs.take k).map RowV.cells).flatten ++ (fitV p).cells ++ ((qs.drop k).map RowV.cells).flatten)) : SrtAt w w9 ps (i + 1) (insV qs p) v' := by
  have hs : w.heap.size ≤ wc.heap.size := Nat.le_trans h.below.size hb.size
  have hw := h.len
  refine ⟨?_, ?_, ?_, h.below.trans ((hb.mono h.below.size).trans (hb9.mono hs))⟩
  · have e : (insV qs p).length = k + 1 + (qs.length - k) := by
      rw [hi, List.length_append, List.length_cons, List.length_take, List.length_drop]
      omega
    have e2 : ((insV qs p).map RowV.cells).flatten = ((qs.take k).map RowV.cells).flatten ++ (fitV p).cells ++ ((qs.drop k).map RowV.cells).flatten := by
      rw [hi, List.map_append, List.map_cons, List.flatten_append, List.flatten_cons, List.append_assoc]
    rw [e, e2]
    exact own_base hown hs
  · rw [List.take_add_one, hp, Option.toList_some, List.foldl_append, List.foldl_cons, List.foldl_nil, ← h.eq]
  · have := insV_len qs p
    omega
/-- the rows sorted: cells of its own, the slices of the rows that came -/
def SrtOut (ps : List RowV) (w : World) (e : Ending) (w' : World) : Prop :=
  ∃ v, e = .returned v ∧ w'.ownsRow w.heap.size 36 18 v (sortedV ps).length ((sortedV ps).map RowV.cells).flatten ∧ Below w.heap.size w w'

theorem SrtAt.done {w wr : World} {ps : List RowV} {i : Nat} {qs : List RowV} {v : Value} (h : SrtAt w wr ps i qs v) (hi : ps.take i = ps.take 200) : wr.ownsRow w.heap.size 36 18 v (sortedV ps).length ((sortedV ps).map RowV.cells).flatten := by
  unfold sortedV
  rw [← hi, ← h.eq]
  exact h.own

end Go.Proofs.YtgklbmcnpnmkkaaDoor
