/-
  SEVERAL SMALL TEXTS IN ONE.
-/
import Derived.Test.YtgklbmcnpnmkkaaDoorLsFns
import Derived.Test.YtgklbmcnpnmkkaaDoorSm35
import Derived.Test.YtgklbmcnpnmkkaaDoorSm25
/-
  Pages of lists that are written out; the chapter's examples, plain.
-/
namespace Go.Proofs.YtgklbmcnpnmkkaaDoor
open Go.RowKit Go.Lib

/-- what the listed variables hold, as far as this chapter wants it -/
structure GlobL (w : World) : Prop where
  g : Glob w
  max : ∃ m0, w.cell? ⟨0, 0, none⟩ = some (.int .i64 m0)
theorem GlobL.later {w w' : World} (h : GlobL w) (hb : Below w.heap.size w w') : GlobL w' := ⟨h.g.later hb, by obtain ⟨m, hm⟩ := h.max; exact ⟨m, cell_later hb hm⟩⟩
/-- what a row says, where it lies -/
structure RowSays (w : World) (g o : Nat) (r : RowD) : Prop where
  key : w.cell? ⟨g, o, none⟩ = some (.string ⟨r.key.toArray⟩)
  common : w.cell? ⟨g, o + 1, none⟩ = some (.bool r.common)
  latest : w.cell? ⟨g, o + 2, none⟩ = some (.bool r.latest)
  seq : w.cell? ⟨g, o + 3, none⟩ = some (.int .i64 r.ver.seq)
theorem RowSays.later {w w' : World} {g o : Nat} {r : RowD} (h : RowSays w g o r) (hb : Below w.heap.size w w') : RowSays w' g o r := ⟨cell_later hb h.key, cell_later hb h.common, cell_later hb h.latest, cell_later hb h.seq⟩
theorem page_lit {pg : PageD} {w w' : World} {e : Ending} (h : PageOut pg w e w') (hn : 0 < pg.rows.length) (hl : pg.rows.length ≤ 140737488351232) (hz : ∀ r ∈ pg.rows, SizeOK r) :
    ∃ g c, e = .returned (.agg #[.slice (some ⟨g, 0, none⟩) pg.rows.length c, .bool pg.more, .string ⟨pg.next.toArray⟩, .int .i64 pg.entry]) ∧ Below w.heap.size w w' ∧ ∀ i r, pg.rows[i]? = some r → RowSays w' g (i * 18) r := by
  obtain ⟨vr, qs, rfl, hq, hr, hb⟩ := h
  have hql : qs.length = pg.rows.length := by rw [← hq, List.length_map]
  have hin := hr.toIn (by omega) (fun p hp => hz _ (by rw [← hq]; exact List.mem_map_of_mem hp))
  rcases hr.own.2 with ⟨_, h0⟩ | ⟨g, cap, cur, rfl, _⟩
  · omega
  · refine ⟨g, cap, by rw [hql], hb, fun i r hi => ?_⟩
    rw [← hq, List.getElem?_map] at hi
    obtain ⟨p, hp, rfl⟩ := Option.map_eq_some_iff.1 hi
    obtain ⟨b, off, he, hc, _⟩ := hin.at hp
    injection he with he
    injection he with h1 h2 h3
    subst h1 h2
    exact ⟨by simpa using hc 0 _ rfl, by simpa using hc 1 _ rfl, by simpa using hc 2 _ rfl, by simpa using hc 3 _ rfl⟩
theorem slAt_nil (w : World) (sz : Nat) : SlAt w sz (.slice none 0 0) [] := ⟨none, 0, rfl, by simp, fun i r h => by simp at h⟩
/-- a list that is written out -/
structure LitRow (p : RowV) : Prop where
  vb : p.vb = .slice none 0 0
  vp : p.vp = .slice none 0 0
  blobs : p.d.ver.blobs = []
  parts : p.d.upl.parts = []
  key : p.d.key.length < 4294967281
theorem list_lit {w : World} {g : Nat} {ps : List RowV} {pre delim : List UInt8} (hG : GlobL w) (h : w.heap[g]? = some (.cells (ps.map RowV.cells).flatten.toArray 36 (0, 0))) (hps : ∀ p ∈ ps, LitRow p) (hl : ps.length ≤ 1000) (hp : pre.length ≤ 1000) (hd : delim.length ≤ 1000) :
    ListIn w (some ⟨g, 0, none⟩) ps.length ps pre delim := by
  have hfl : (ps.map RowV.cells).flatten.length = ps.length * 18 := by
    rw [flatten_len (sz := 18) (fun r hr => by obtain ⟨_, _, rfl⟩ := List.mem_map.1 hr; rfl), List.length_map]
  refine ⟨⟨own_slAt (base := 0) (e := 36) ⟨?_, .inr ⟨g, ps.length, _, by rw [List.length_map], Nat.zero_le _, h, ?_, ?_, ?_, ?_⟩⟩ (fun r hr => by obtain ⟨_, _, rfl⟩ := List.mem_map.1 hr; rfl) (by rw [List.length_map]; omega), fun p hp => ?_⟩, hG.max, fun p hp => ?_, fun p hp => ⟨Nat.le_trans (Nat.le_of_lt (hps p hp).key) (by decide), .inr (hps p hp).key⟩, by omega, by omega, by omega⟩
  · rw [hfl, List.length_map]
  · rw [List.length_map]; exact Nat.le_refl _
  · simp only [maxLen]; omega
  · rw [List.size_toArray, hfl]
  · rw [List.length_map, ← hfl, List.take_length]
  · obtain ⟨h1, h2, h3, h4, _⟩ := hps p hp
    exact ⟨by rw [h1, h3]; exact slAt_nil _ _, by rw [h2, h4]; exact slAt_nil _ _⟩
  · obtain ⟨h1, h2, h3, h4, _⟩ := hps p hp
    exact ⟨by rw [h3]; decide, by rw [h4]; decide⟩

/-! ### the examples -/
def exRow (key : List UInt8) (n : Int) : RowD := { rowZ with key := key, ver := { verZ with seq := n } }
def exV (key : List UInt8) (n : Int) : RowV := ⟨exRow key n, .slice none 0 0, .slice none 0 0⟩
theorem exV_lit (key : List UInt8) (n : Int) (h : key.length < 4294967281) : LitRow (exV key n) := ⟨rfl, rfl, rfl, rfl, h⟩
def exL1 : List RowV := [exV [97, 47, 49] 0, exV [97, 47, 50] 0, exV [98] 0]
def exL2 : List RowV := [exV [107] 3, exV [107] 1, exV [108] 2]
theorem exL1_lit : ∀ p ∈ exL1, LitRow p := by
  intro p hp
  simp only [exL1, List.mem_cons, List.not_mem_nil, or_false] at hp
  rcases hp with rfl | rfl | rfl <;> exact exV_lit _ _ (by decide)
theorem exL2_lit : ∀ p ∈ exL2, LitRow p := by
  intro p hp
  simp only [exL2, List.mem_cons, List.not_mem_nil, or_false] at hp
  rcases hp with rfl | rfl | rfl <;> exact exV_lit _ _ (by decide)
def exCom : RowD := { rowZ with key := [97, 47], common := true }
theorem ex_pg1 : pageL .objs (exL1.map RowV.d) [] [47] [] 0 9 = ⟨[exCom, exRow [98] 0], false, [], 0⟩ := by decide +kernel
theorem ex_pg2 : pageL .objs (exL1.map RowV.d) [] [47] [] 0 1 = ⟨[exCom], true, [97, 47], 0⟩ := by decide +kernel
theorem ex_pg3 : pageL .vers (exL2.map RowV.d) [] [] [107] 3 9 = ⟨[exRow [107] 1, exRow [108] 2], false, [], 0⟩ := by decide +kernel
def exTok : List UInt8 := [77, 68, 65, 119, 77, 68, 65, 119, 77, 68, 65, 119, 77, 68, 65, 119, 77, 68, 65, 119, 77, 87, 115, 61]
theorem ex_tok : tokenL [107] 1 = exTok := by decide +kernel
theorem ex_read : readTok exTok = some ([107], 1) := by decide +kernel
theorem size_nil {r : RowD} (h1 : r.ver.blobs = []) (h2 : r.upl.parts = []) : SizeOK r := ⟨by rw [h1]; decide, by rw [h2]; decide⟩

end Go.Proofs.YtgklbmcnpnmkkaaDoor

/-
  sorted: what its walk keeps.
-/
namespace Go.Proofs.YtgklbmcnpnmkkaaDoor
open Go.RowKit Go.Lib

/-- between two rounds of sorted -/
structure SrtAt (w wr : World) (ps : List RowV) (i : Nat) (qs : List RowV) (v : Value) : Prop where
  own : wr.ownsRow w.heap.size 36 18 v qs.length (qs.map RowV.cells).flatten
  eq : qs = (ps.take i).foldl insV []
  len : qs.length ≤ i
  below : Below w.heap.size w wr
theorem SrtAt.mem {w wr : World} {ps : List RowV} {i : Nat} {qs : List RowV} {v : Value} (h : SrtAt w wr ps i qs v) : ∀ q ∈ qs, ∃ p ∈ ps, q = fitV p := by
  have hf : ∀ (l out : List RowV), (∀ q ∈ out, ∃ p ∈ ps, q = fitV p) → (∀ p ∈ l, p ∈ ps) → ∀ q ∈ l.foldl insV out, ∃ p ∈ ps, q = fitV p := by
    intro l
    induction l with
    | nil => intro out ho _; exact ho
    | cons p l ih =>
      intro out ho hl
      rw [List.foldl_cons]
      refine ih _ (fun q hq => ?_) (fun p hp => hl p (List.mem_cons_of_mem _ hp))
      rcases insV_mem hq with h1 | h1
      · exact ho q h1
      · exact ⟨p, hl p List.mem_cons_self, h1⟩
  rw [h.eq]
  exact hf _ _ (fun q hq => by cases hq) (fun p hp => List.mem_of_mem_take hp)
theorem SrtAt.rowsIn {w wr W : World} {ps : List RowV} {i : Nat} {qs : List RowV} {v va : Value} (h : SrtAt w wr ps i qs v) (hr : RowsIn w va ps) (hi : i ≤ 200) (hb : Below wr.heap.size wr W) : RowsIn W v qs := by
  have hl := h.len
  have h0 : SlAt wr 18 v (qs.map RowV.cells) := own_slAt (by rw [List.length_map]; exact h.own) (fun r hr => by obtain ⟨_, _, rfl⟩ := List.mem_map.1 hr; rfl) (by rw [List.length_map]; omega)
  refine ⟨h0.later hb, fun q hq => ?_⟩
  obtain ⟨p, hp, rfl⟩ := h.mem q hq
  have h1 := ((hr.rows p hp).later h.below).later hb
  exact ⟨h1.blobs, h1.parts⟩
theorem below_two {g : Nat} {x y z : World} (hg : x.heap.size = g) (h : Below g x y) (k : Below y.heap.size y z) : Below x.heap.size x z := by
  subst hg
  exact h.trans (k.mono h.size)
theorem rows_ones {w : World} {v : Value} {qs l : List RowV} (h : RowsIn w v qs) (hl : ∀ q ∈ l, q ∈ qs) : ∀ u ∈ (l.map RowV.cells).flatten, u.oneCell' = true := by
  intro u hu
  obtain ⟨c, hc, hu⟩ := List.mem_flatten.1 hu
  obtain ⟨q, hq, rfl⟩ := List.mem_map.1 hc
  have := (h.rows q (hl q hq)).ones
  simp only [List.all_toArray, List.all_eq_true] at this
  exact this u hu
theorem SrtAt.skip {w wr wc : World} {ps : List RowV} {i : Nat} {qs : List RowV} {v : Value} {p : RowV} (h : SrtAt w wr ps i qs v) (hp : ps[i]? = some p) (hi : insV qs p = qs) (hb : Below wr.heap.size wr wc) : SrtAt w wc ps (i + 1) qs v := by
  refine ⟨own_later h.own hb, ?_, by have := h.len; omega, h.below.trans (hb.mono h.below.size)⟩
  rw [List.take_add_one, hp, Option.toList_some, List.foldl_append, List.foldl_cons, List.foldl_nil, ← h.eq, hi]
theorem own_cells {w : World} {base g c n : Nat} {e : TypeId} {sz : Nat} {xs : List Value} (h : w.ownsRow base e sz (.slice (some ⟨g, 0, none⟩) n c) n xs) {j : Nat} {u : Value} (hj : xs[j]? = some u) : w.cell? ⟨g, j, none⟩ = some u := by
  rcases h.2 with ⟨h1, _⟩ | ⟨g', cap, cur, h1, hb, hg, hn, hm, hcs, ht⟩
  · cases h1
  · injection h1 with h1 h2 h3
    injection h1 with h1
    injection h1 with h1 _ _
    subst h1
    rw [← ht] at hj
    have hlt := (List.getElem?_eq_some_iff.1 hj).1
    rw [List.length_take] at hlt
    rw [List.getElem?_take, if_pos (by omega), Array.getElem?_toList] at hj
    exact (cell_of_heap hg).trans hj
theorem rows_len (l : List RowV) (n : Nat) (h : l.length = n) : (l.map RowV.cells).flatten.length = n * 18 := by
  rw [flatten_len (sz := 18) (fun r hr => by obtain ⟨_, _, rfl⟩ := List.mem_map.1 hr; rfl), List.length_map, h]
theorem SrtAt.ins {w wr wc w9 : World} {ps : List RowV} {i k : Nat} {qs : List RowV} {v v' : Value} {p : RowV} (h : SrtAt w wr ps i qs v) (hp : ps[i]? = some p) (hi : insV qs p = qs.take k ++ fitV p :: qs.drop k) (hk : k ≤ qs.length) (hb : Below wr.heap.size wr wc) (hb9 : Below wc.heap.size wc w9)
    (hown : w9.ownsRow wc.heap.size 36 18 v' (k + 1 + (qs.length - k)) (((qs.take k).map RowV.cells).flatten ++ (fitV p).cells ++ ((qs.drop k).map RowV.cells).flatten)) : SrtAt w w9 ps (i + 1) (insV qs p) v' := by
  have hs : w.heap.size ≤ wc.heap.size := Nat.le_trans h.below.size hb.size
  have hw := h.len
  refine ⟨?_, ?_, ?_, h.below.trans ((hb.mono h.below.size).trans (hb9.mono hs))⟩
  · have e : (insV qs p).length = k + 1 + (qs.length - k) := by
      rw [hi, List.length_append, List.length_cons, List.length_take, List.length_drop]
      omega
    have e2 : ((insV qs p).map RowV.cells).flatten = ((qs.take k).map RowV.cells).flatten ++ (fitV p).cells ++ ((qs.drop k).map RowV.cells).flatten := by
      rw [hi, List.map_append, List.map_cons, List.flatten_append, List.flatten_cons, List.append_assoc]
    rw [e, e2]
    exact own_base hown hs
  · rw [List.take_add_one, hp, Option.toList_some, List.foldl_append, List.foldl_cons, List.foldl_nil, ← h.eq]
  · have := insV_len qs p
    omega
/-- the rows sorted: cells of its own, the slices of the rows that came -/
def SrtOut (ps : List RowV) (w : World) (e : Ending) (w' : World) : Prop :=
  ∃ v, e = .returned v ∧ w'.ownsRow w.heap.size 36 18 v (sortedV ps).length ((sortedV ps).map RowV.cells).flatten ∧ Below w.heap.size w w'

theorem SrtAt.done {w wr : World} {ps : List RowV} {i : Nat} {qs : List RowV} {v : Value} (h : SrtAt w wr ps i qs v) (hi : ps.take i = ps.take 200) : wr.ownsRow w.heap.size 36 18 v (sortedV ps).length ((sortedV ps).map RowV.cells).flatten := by
  unfold sortedV
  rw [← hi, ← h.eq]
  exact h.own

end Go.Proofs.YtgklbmcnpnmkkaaDoor
