/-
  LISTING: how rows lie in memory: rows that are read; rows in memory of their own.
-/
import Derived.Test.YtgklbmcnpnmkkaaDoorSm1
import Derived.Deep.AppendLies
namespace Go.Proofs.YtgklbmcnpnmkkaaDoor
open Go.RowKit

/-! ### slices that are read, slices of one's own -/
theorem SlAt.kept {w w' : World} {sz : Nat} {v : Value} {rows : List (List Value)} (h : SlAt w sz v rows) (hb : ∀ b o u, w.cell? ⟨b, o, none⟩ = some u → w'.cell? ⟨b, o, none⟩ = some u) : SlAt w' sz v rows := by
  obtain ⟨a, c, rfl, hl, h⟩ := h
  refine ⟨a, c, rfl, hl, fun i r hr => ?_⟩
  obtain ⟨b, off, rfl, hc⟩ := h i r hr
  exact ⟨b, off, rfl, fun j u hu => hb _ _ _ (hc j u hu)⟩
theorem SlAt.later {w w' : World} {sz : Nat} {v : Value} {rows : List (List Value)} (h : SlAt w sz v rows) (hb : Below w.heap.size w w') : SlAt w' sz v rows :=
  h.kept fun b o u hu => by rw [World.cell?_of_block (w := w) (hb.block b (World.block_lt_of_cell? w _ hu))]; exact hu
theorem flatten_get {sz : Nat} : ∀ {rows : List (List Value)} {i j : Nat} {r : List Value} {u : Value}, (∀ r ∈ rows, r.length = sz) → rows[i]? = some r → r[j]? = some u → rows.flatten[i * sz + j]? = some u
  | [], i, j, r, u, _, h, _ => by simp at h
  | r0 :: rows, 0, j, r, u, hs, h, hu => by
    simp only [List.getElem?_cons_zero, Option.some.injEq] at h
    subst h
    have hj := (List.getElem?_eq_some_iff.1 hu).1
    simp only [List.flatten_cons, Nat.zero_mul, Nat.zero_add]
    rw [List.getElem?_append_left hj]
    exact hu
  | r0 :: rows, i + 1, j, r, u, hs, h, hu => by
    have h0 := hs r0 (by simp)
    simp only [List.getElem?_cons_succ] at h
    have := flatten_get (fun r hr => hs r (by simp [hr])) h hu
    simp only [List.flatten_cons]
    rw [List.getElem?_append_right (by rw [h0, Nat.add_mul]; omega), h0, show (i + 1) * sz + j - sz = i * sz + j from by rw [Nat.add_mul]; omega]
    exact this
theorem flatten_len {sz : Nat} : ∀ {rows : List (List Value)}, (∀ r ∈ rows, r.length = sz) → rows.flatten.length = rows.length * sz
  | [], _ => by simp
  | r :: rows, h => by
    rw [List.flatten_cons, List.length_append, h r (by simp), flatten_len (fun r hr => h r (by simp [hr])), List.length_cons, Nat.add_mul, Nat.one_mul, Nat.add_comm]
theorem own_slAt {w : World} {base : Nat} {e : TypeId} {sz : Nat} {v : Value} {rows : List (List Value)} (h : w.ownsRow base e sz v rows.length rows.flatten) (hs : ∀ r ∈ rows, r.length = sz) (hl : rows.length ≤ 140737488351232) : SlAt w sz v rows := by
  rcases h.2 with ⟨rfl, h0⟩ | ⟨g, cap, cur, rfl, hb, hg, hn, hm, hcs, ht⟩
  · obtain rfl := List.eq_nil_of_length_eq_zero h0
    exact ⟨none, 0, rfl, hl, fun i r hr => by simp at hr⟩
  · refine ⟨_, cap, rfl, hl, fun i r hr => ⟨g, 0, rfl, fun j u hu => ?_⟩⟩
    have hf := flatten_get hs hr hu
    rw [← ht] at hf
    have hlt := (List.getElem?_eq_some_iff.1 hf).1
    rw [List.length_take] at hlt
    rw [List.getElem?_take, if_pos (by omega), Array.getElem?_toList] at hf
    rw [Nat.zero_add]
    simp only [World.cell?, hg]
    simpa using hf
theorem own_kept {w w' : World} {base : Nat} {e : TypeId} {sz : Nat} {v : Value} {n : Nat} {xs : List Value} (h : w.ownsRow base e sz v n xs) (hk : ∀ g, v.ownBlock = some g → g < w.heap.size → w'.heap[g]? = w.heap[g]?) : w'.ownsRow base e sz v n xs := by
  refine ⟨h.1, ?_⟩
  rcases h.2 with h1 | ⟨g, cap, cur, rfl, hg, hh, r⟩
  · exact .inl h1
  · exact .inr ⟨g, cap, cur, rfl, hg, by rw [hk g rfl (Array.getElem?_eq_some_iff.1 hh).1]; exact hh, r⟩
theorem own_later {w w' : World} {base : Nat} {e : TypeId} {sz : Nat} {v : Value} {n : Nat} {xs : List Value} (h : w.ownsRow base e sz v n xs) (hb : Below w.heap.size w w') : w'.ownsRow base e sz v n xs := own_kept h fun g _ hg => hb.block g hg
theorem own_form {w : World} {base : Nat} {e : TypeId} {sz : Nat} {v : Value} {n : Nat} {xs : List Value} (h : w.ownsRow base e sz v n xs) : ∃ a c, v = .slice a n c := by
  rcases h.2 with ⟨rfl, rfl⟩ | ⟨g, cap, cur, rfl, _⟩
  · exact ⟨none, 0, rfl⟩
  · exact ⟨_, cap, rfl⟩
theorem own_base {w : World} {base base' : Nat} {e : TypeId} {sz : Nat} {v : Value} {n : Nat} {xs : List Value} (h : w.ownsRow base e sz v n xs) (hb : base' ≤ base) : w.ownsRow base' e sz v n xs :=
  ⟨h.1, h.2.imp id fun ⟨g, cap, cur, h1, h2, h3⟩ => ⟨g, cap, cur, h1, Nat.le_trans hb h2, h3⟩⟩

/-! ### rows -/
def PartD.cells (p : PartD) : List Value := [.int .i64 p.number, .int .i64 p.size, .int .i64 p.when_, .string ⟨p.etag.toArray⟩, .int .i64 p.blob]
/-- a row as it lies: what it says, and its two slices -/
structure RowV where
  d : RowD
  vb : Value
  vp : Value
def RowV.cells (p : RowV) : List Value :=
  [.string ⟨p.d.key.toArray⟩, .bool p.d.common, .bool p.d.latest,
   .int .i64 p.d.ver.seq, .bool p.d.ver.null, .bool p.d.ver.marker, .string ⟨p.d.ver.etag.toArray⟩, .string ⟨p.d.ver.type.toArray⟩, .int .i64 p.d.ver.size, .int .i64 p.d.ver.when_, p.vb,
   .int .i64 p.d.upl.seq, .string ⟨p.d.upl.bucket.toArray⟩, .string ⟨p.d.upl.key.toArray⟩, .string ⟨p.d.upl.type.toArray⟩, .string ⟨p.d.upl.owner.toArray⟩, .int .i64 p.d.upl.when_, p.vp]
def blobCells (l : List Int) : List (List Value) := l.map fun x => [.int .i64 x]
def partCells (l : List PartD) : List (List Value) := l.map PartD.cells
theorem RowV.len (p : RowV) : p.cells.length = 18 := rfl
/-- a row that is read -/
structure RowIn (w : World) (p : RowV) : Prop where
  blobs : SlAt w 1 p.vb (blobCells p.d.ver.blobs)
  parts : SlAt w 5 p.vp (partCells p.d.upl.parts)
/-- a row of one's own -/
structure RowOwn (w : World) (base : Nat) (p : RowV) : Prop where
  blobs : w.ownsRow base 3 1 p.vb p.d.ver.blobs.length (blobCells p.d.ver.blobs).flatten
  parts : w.ownsRow base 68 5 p.vp p.d.upl.parts.length (partCells p.d.upl.parts).flatten
/-- what a row may be, for memory's sake -/
def SizeOK (r : RowD) : Prop := r.ver.blobs.length ≤ 17592186043904 ∧ r.upl.parts.length ≤ 2932031007317
/-- rows that are read -/
structure RowsIn (w : World) (v : Value) (ps : List RowV) : Prop where
  sl : SlAt w 18 v (ps.map RowV.cells)
  rows : ∀ p ∈ ps, RowIn w p
/-- rows of one's own -/
structure RowsOwn (w : World) (base : Nat) (v : Value) (ps : List RowV) : Prop where
  own : w.ownsRow base 36 18 v ps.length (ps.map RowV.cells).flatten
  rows : ∀ p ∈ ps, RowOwn w base p

theorem RowIn.later {w w' : World} {p : RowV} (h : RowIn w p) (hb : Below w.heap.size w w') : RowIn w' p := ⟨h.blobs.later hb, h.parts.later hb⟩
theorem RowsIn.later {w w' : World} {v : Value} {ps : List RowV} (h : RowsIn w v ps) (hb : Below w.heap.size w w') : RowsIn w' v ps := ⟨h.sl.later hb, fun p hp => (h.rows p hp).later hb⟩
theorem RowsIn.kept {w w' : World} {v : Value} {ps : List RowV} (h : RowsIn w v ps) (hb : ∀ b o u, w.cell? ⟨b, o, none⟩ = some u → w'.cell? ⟨b, o, none⟩ = some u) : RowsIn w' v ps := ⟨h.sl.kept hb, fun p hp => ⟨(h.rows p hp).blobs.kept hb, (h.rows p hp).parts.kept hb⟩⟩
theorem RowOwn.later {w w' : World} {base : Nat} {p : RowV} (h : RowOwn w base p) (hb : Below w.heap.size w w') : RowOwn w' base p := ⟨own_later h.blobs hb, own_later h.parts hb⟩
theorem RowOwn.kept {w w' : World} {base : Nat} {p : RowV} (h : RowOwn w base p) (hk : ∀ g, p.vb.ownBlock = some g ∨ p.vp.ownBlock = some g → g < w.heap.size → w'.heap[g]? = w.heap[g]?) : RowOwn w' base p := ⟨own_kept h.blobs fun g h1 h2 => hk g (.inl h1) h2, own_kept h.parts fun g h1 h2 => hk g (.inr h1) h2⟩
theorem RowsOwn.later {w w' : World} {base : Nat} {v : Value} {ps : List RowV} (h : RowsOwn w base v ps) (hb : Below w.heap.size w w') : RowsOwn w' base v ps := ⟨own_later h.own hb, fun p hp => (h.rows p hp).later hb⟩
theorem RowOwn.base {w : World} {base base' : Nat} {p : RowV} (h : RowOwn w base p) (hb : base' ≤ base) : RowOwn w base' p := ⟨own_base h.blobs hb, own_base h.parts hb⟩
theorem RowsOwn.base {w : World} {base base' : Nat} {v : Value} {ps : List RowV} (h : RowsOwn w base v ps) (hb : base' ≤ base) : RowsOwn w base' v ps := ⟨own_base h.own hb, fun p hp => (h.rows p hp).base hb⟩
theorem RowsIn.form {w : World} {v : Value} {ps : List RowV} (h : RowsIn w v ps) : ∃ a c, v = .slice a ps.length c ∧ ps.length ≤ 140737488351232 := by
  obtain ⟨a, c, rfl, hl, _⟩ := h.sl
  rw [List.length_map] at hl ⊢
  exact ⟨a, c, rfl, hl⟩
theorem RowOwn.toIn {w : World} {base : Nat} {p : RowV} (h : RowOwn w base p) (hs : SizeOK p.d) : RowIn w p :=
  ⟨own_slAt (by unfold blobCells; rw [List.length_map]; exact h.blobs) (fun r hr => by obtain ⟨_, _, rfl⟩ := List.mem_map.1 hr; rfl) (by unfold blobCells; rw [List.length_map]; have := hs.1; omega),
   own_slAt (by unfold partCells; rw [List.length_map]; exact h.parts) (fun r hr => by obtain ⟨_, _, rfl⟩ := List.mem_map.1 hr; rfl) (by unfold partCells; rw [List.length_map]; have := hs.2; omega)⟩
theorem RowsOwn.toIn {w : World} {base : Nat} {v : Value} {ps : List RowV} (h : RowsOwn w base v ps) (hl : ps.length ≤ 140737488351232) (hs : ∀ p ∈ ps, SizeOK p.d) : RowsIn w v ps :=
  ⟨own_slAt (by rw [List.length_map]; exact h.own) (fun r hr => by obtain ⟨_, _, rfl⟩ := List.mem_map.1 hr; rfl) (by rw [List.length_map]; exact hl), fun p hp => (h.rows p hp).toIn (hs p hp)⟩
/-- a row's cells, where it lies -/
theorem RowsIn.at {w : World} {a : Option Addr} {n c : Nat} {ps : List RowV} (h : RowsIn w (.slice a n c) ps) {i : Nat} {p : RowV} (hi : ps[i]? = some p) : ∃ b off, a = some ⟨b, off, none⟩ ∧ (∀ j u, p.cells[j]? = some u → w.cell? ⟨b, off + i * 18 + j, none⟩ = some u) ∧ RowIn w p := by
  obtain ⟨a', c', he, _, hc⟩ := h.sl
  injection he with h1 _ _
  subst h1
  obtain ⟨b, off, rfl, hcc⟩ := hc i p.cells (by rw [List.getElem?_map, hi]; rfl)
  exact ⟨b, off, rfl, hcc, h.rows p (List.mem_of_getElem? hi)⟩
/-- one row more -/
theorem RowsOwn.push {w w1 : World} {base : Nat} {v v1 : Value} {ps : List RowV} {p : RowV} (h : RowsOwn w base v ps) (hp : RowOwn w base p) (hown : w1.ownsRow base 36 18 v1 (ps.length + 1) ((ps.map RowV.cells).flatten ++ p.cells)) (hg : w.grownBy w1 v.ownBlock)
    (hv : ∀ q, q ∈ ps ∨ q = p → ∀ g, q.vb.ownBlock = some g ∨ q.vp.ownBlock = some g → v.ownBlock ≠ some g) : RowsOwn w1 base v1 (ps ++ [p]) := by
  refine ⟨by rw [List.length_append]; simpa using hown, fun q hq => ?_⟩
  have hq' : q ∈ ps ∨ q = p := by simpa using hq
  have h1 : RowOwn w base q := by
    rcases hq' with h1 | rfl
    · exact h.rows q h1
    · exact hp
  exact h1.kept fun g hgo hlt => hg.block g hlt (fun e => hv q hq' g hgo e.symm)
/-- blocks of two types are two blocks -/
theorem own_apart {w : World} {b1 b2 : Nat} {e1 e2 : TypeId} {s1 s2 : Nat} {v1 v2 : Value} {n1 n2 : Nat} {x1 x2 : List Value} (h1 : w.ownsRow b1 e1 s1 v1 n1 x1) (h2 : w.ownsRow b2 e2 s2 v2 n2 x2) (he : e1 ≠ e2) {g : Nat} (hg : v1.ownBlock = some g) : v2.ownBlock ≠ some g := by
  intro hg2
  rcases h1.2 with ⟨rfl, _⟩ | ⟨g1, _, _, rfl, _, k1, _⟩
  · cases hg
  rcases h2.2 with ⟨rfl, _⟩ | ⟨g2, _, _, rfl, _, k2, _⟩
  · cases hg2
  simp only [Value.ownBlock, Option.some.injEq] at hg hg2
  subst hg hg2
  rw [k1] at k2
  injection k2 with k2
  injection k2 with _ k2 _
  exact he k2
theorem RowOwn.apart {w : World} {base b2 : Nat} {p : RowV} (h : RowOwn w base p) {v : Value} {n : Nat} {xs : List Value} (hv : w.ownsRow b2 36 18 v n xs) (g : Nat) (hg : p.vb.ownBlock = some g ∨ p.vp.ownBlock = some g) : v.ownBlock ≠ some g := by
  rcases hg with hg | hg
  · exact own_apart h.blobs hv (by decide) hg
  · exact own_apart h.parts hv (by decide) hg

end Go.Proofs.YtgklbmcnpnmkkaaDoor
