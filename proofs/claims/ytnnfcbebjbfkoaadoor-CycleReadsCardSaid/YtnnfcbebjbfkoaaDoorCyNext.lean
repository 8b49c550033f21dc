/-
  Next: what it computes; the closure; the search.
-/
import Derived.Test.YtnnfcbebjbfkoaaDoorCyStale
import Derived.Test.YtnnfcbebjbfkoaaDoorSm
namespace Go.Proofs.YtnnfcbebjbfkoaaDoor
open Go.RowKit

def VersionV.val (v : VersionV) : Value := .agg #[.int .i64 v.seq, .bool v.null, .bool v.marker, .string v.etag, .string v.typ, .int .i64 v.size, .int .i64 v.when_, .slice v.bA v.bN v.bC]

set_option maxHeartbeats 400000 in
theorem next1_any (v : VersionV) (s : Int) (bq g o n c : Nat) (w : World) (hn : 0 < n)
    (c1 : w.cell? ⟨bq, 0, none⟩ = some (.slice (some ⟨g, o, none⟩) n c)) (c2 : w.cell? ⟨g, o, none⟩ = some (.int .i64 s)) :
    Calls Tryd.prog 31 #[v.val, .pointer (some ⟨bq, 0, none⟩)] w fun e w' => e = .returned (.bool (v.seq == s)) ∧ Below w.heap.size w w' := by
  obtain ⟨sq, nl, mk, et, ty, sz, wh, a1, a2, a3⟩ := v
  have g1 := World.block_lt_of_cell? w _ c1
  have g2 := World.block_lt_of_cell? w _ c2
  simp only at g1 g2
  go_enter Tryd.func31, Tryd.ntmps31
  simp only [VersionV.val]
  go_wp2
  go_quiet (fail)
  go_wp2
  go_ret
  exact ⟨rfl, below_drewN (below_alloc (Below.refl _ _) (Nat.le_refl _) _) _⟩

instance : Inhabited VersionV := ⟨⟨0, false, false, ByteArray.empty, ByteArray.empty, 0, 0, none, 0, 0⟩⟩
theorem isAgg_ver (w : World) : (isAgg 56).run Tryd.prog w = .ok true w := Tryd.isAgg56 w
theorem sizeOf_ver (w : World) : (Go.sizeOf 56).run Tryd.prog w = .ok 8 w := Tryd.sizeOf56 w

/-- the cells of some versions -/
def vflat (l : List VersionV) : List Value := l.flatMap VersionV.cells
theorem vflat_length (l : List VersionV) : (vflat l).length = l.length * 8 := by
  induction l with
  | nil => rfl
  | cons r l ih => simp only [vflat, List.flatMap_cons, List.length_append, List.length_cons] at *; rw [ih]; simp [VersionV.cells]; omega
theorem vflat_get (l : List VersionV) : ∀ i r, l[i]? = some r → ∀ c, c < 8 → (vflat l)[i * 8 + c]? = r.cells[c]? := by
  induction l with
  | nil => intro i r h; cases h
  | cons x l ih =>
    intro i r h c hc
    cases i with
    | zero =>
      simp at h; subst h
      simp only [vflat, List.flatMap_cons]
      rw [List.getElem?_append_left (by simp [VersionV.cells]; omega)]
      congr 1; omega
    | succ i =>
      simp at h
      simp only [vflat, List.flatMap_cons]
      rw [List.getElem?_append_right (by simp [VersionV.cells]; omega)]
      have := ih i r h c hc
      rw [← this, vflat]
      congr 1
      simp [VersionV.cells]; omega
theorem vflat_one (l : List VersionV) : ∀ u ∈ vflat l, u.oneCell' = true := by
  intro u hu
  simp only [vflat, List.mem_flatMap] at hu
  obtain ⟨r, _, hu⟩ := hu
  simp [VersionV.cells] at hu
  rcases hu with rfl | rfl | rfl | rfl | rfl | rfl | rfl | rfl <;> rfl
theorem vflat_snoc (l : List VersionV) (v : VersionV) : vflat (l ++ [v]) = vflat l ++ v.cells := by simp [vflat]

theorem VersionsIn.of_own {w : World} {base : Nat} {v : Value} {l : List VersionV} (h : w.ownsRow base 56 8 v l.length (vflat l)) (hl : l.length ≤ 2199023255552) : VersionsIn w v l := by
  rcases h.2 with ⟨rfl, h0⟩ | ⟨g, cap, cur, rfl, hb, hg, hn, hm, hcs, ht⟩
  · exact ⟨none, 0, by rw [h0], hl, fun hp => by omega⟩
  · refine ⟨_, _, rfl, hl, fun _ => ⟨g, 0, rfl, fun i r hr j u hu => ?_⟩⟩
    have hj : j < 8 := by have := (List.getElem?_eq_some_iff.1 hu).1; simpa [VersionV.cells] using this
    have hi := (List.getElem?_eq_some_iff.1 hr).1
    have := vflat_get l i r hr j hj
    rw [Nat.zero_add, cell_of_heap hg, ← hu, ← this, ← ht, List.getElem?_take, if_pos (by omega), Array.getElem?_toList]

structure RowV where
  key : ByteArray
  common : Bool
  latest : Bool
  ver : VersionV
  up : UploadV
def RowV.cells (r : RowV) : List Value := [.string r.key, .bool r.common, .bool r.latest] ++ r.ver.cells ++ r.up.cells

/-- a text as the model has it -/
def bytes (l : List UInt8) : ByteArray := ⟨l.toArray⟩

/-- an operation that is due -/
def opV (kind now : Int) (bucket key version : ByteArray) (upload : Int) : Value :=
  .agg #[.int .i64 kind, .int .i64 now, .string ⟨#[]⟩, .string bucket, .string key, .string version, .int .i64 upload, .int .i64 0, .int .i64 0, .int .i64 0, .string ⟨#[]⟩, .string ⟨#[]⟩, .string ⟨#[]⟩, .string ⟨#[]⟩, .string ⟨#[]⟩, .string ⟨#[]⟩, .string ⟨#[]⟩, .int .i64 0, .int .i64 0, .slice none 0 0, .slice none 0 0, .int .i64 0, .int .i64 0]
def verName (v : VersionV) : ByteArray := if v.null then bytes [110, 117, 108, 108] else bytes (numText v.seq)

/-- what is due of one key -/
def nextKey (rs : List RuleV) (mode : Int) (name : ByteArray) (now : Int) (key : ByteArray) (vs : List VersionV) : Option Value :=
  match (due rs mode key vs now).1 with
  | s :: _ => (vs.find? fun v => v.seq == s).map fun v => opV 19 now name key (verName v) 0
  | [] => if (due rs mode key vs now).2 then some (opV 19 now name key ⟨#[]⟩ 0) else none

/-- the rows of the first key, and those behind it -/
def sameKey (key : ByteArray) : List RowV → List RowV
  | [] => []
  | r :: l => if r.key.toList == key.toList then r :: sameKey key l else []
def behindKey (key : ByteArray) : List RowV → List RowV
  | [] => []
  | r :: l => if r.key.toList == key.toList then behindKey key l else r :: l
def nextRows (rs : List RuleV) (mode : Int) (name : ByteArray) (now : Int) : Nat → List RowV → Option Value
  | 0, _ => none
  | _, [] => none
  | f + 1, r :: l => match nextKey rs mode name now r.key ((sameKey r.key (r :: l)).map RowV.ver) with
    | some v => some v
    | none => nextRows rs mode name now f (behindKey r.key (r :: l))
def nextOf (rs : List RuleV) (mode : Int) (name : ByteArray) (rows : List RowV) (ups : List UploadV) (now : Int) : Option Value :=
  match nextRows rs mode name now rows.length rows with
  | some v => some v
  | none => (ups.find? fun u => staleB rs u now).map fun u => opV 24 now u.bucket u.key ⟨#[]⟩ u.seq

theorem behindKey_le (key : ByteArray) : ∀ l, (behindKey key l).length ≤ l.length
  | [] => Nat.le_refl _
  | r :: l => by
    unfold behindKey
    have := behindKey_le key l
    split <;> simp <;> omega

/-- the worlds' slices of rows, of uploads -/
def RowsIn (w : World) (v : Value) (l : List RowV) : Prop :=
  ∃ a c, v = .slice a l.length c ∧ l.length ≤ c ∧ l.length ≤ 651562446089 ∧ (0 < l.length → ∃ b off, a = some ⟨b, off, none⟩ ∧ ∀ i r, l[i]? = some r → ∀ j u, r.cells[j]? = some u → w.cell? ⟨b, off + i * 18 + j, none⟩ = some u)
def UploadsIn (w : World) (v : Value) (l : List UploadV) : Prop :=
  ∃ a c, v = .slice a l.length c ∧ l.length ≤ 2199023255552 ∧ (0 < l.length → ∃ b off, a = some ⟨b, off, none⟩ ∧ ∀ i r, l[i]? = some r → ∀ j u, r.cells[j]? = some u → w.cell? ⟨b, off + i * 7 + j, none⟩ = some u)

theorem RowsIn.later {w w' : World} {v : Value} {l : List RowV} (h : RowsIn w v l) (hb : Below w.heap.size w w') : RowsIn w' v l := by
  obtain ⟨a, c, rfl, hc, hl, h⟩ := h
  refine ⟨a, c, rfl, hc, hl, fun hp => ?_⟩
  obtain ⟨b, off, rfl, hc⟩ := h hp
  exact ⟨b, off, rfl, fun i r hr j u hu => by
    have := hc i r hr j u hu
    rw [hb.cell (World.block_lt_of_cell? w _ this)]; exact this⟩
theorem UploadsIn.later {w w' : World} {v : Value} {l : List UploadV} (h : UploadsIn w v l) (hb : Below w.heap.size w w') : UploadsIn w' v l := by
  obtain ⟨a, c, rfl, hl, h⟩ := h
  refine ⟨a, c, rfl, hl, fun hp => ?_⟩
  obtain ⟨b, off, rfl, hc⟩ := h hp
  exact ⟨b, off, rfl, fun i r hr j u hu => by
    have := hc i r hr j u hu
    rw [hb.cell (World.block_lt_of_cell? w _ this)]; exact this⟩

theorem due_mem (rs : List RuleV) (mode : Int) (vs : List VersionV) (now : Int) : ∀ i, ∀ s ∈ (dueTo rs mode vs now i).1, ∃ v ∈ vs, v.seq = s
  | 0, s, h => by simp [dueTo] at h
  | i + 1, s, h => by
    unfold dueTo at h
    split at h
    · rename_i v hv
      unfold dueStep at h
      split at h
      · split at h
        · exact due_mem rs mode vs now i s h
        · simp only [List.mem_append, List.mem_singleton] at h
          rcases h with h | h
          · exact due_mem rs mode vs now i s h
          · exact ⟨v, List.mem_of_getElem? hv, h.symm⟩
      · exact due_mem rs mode vs now i s h
    · exact due_mem rs mode vs now i s h

theorem find_idx (s : Int) : ∀ (vs : List VersionV) (i : Nat), (∃ v ∈ vs, v.seq = s) →
    ∃ k v, vs[k]? = some v ∧ Lib.idxByFrom (fun _ (y : VersionV) => y.seq == s) default vs i = ((i + k : Nat) : Int) ∧ vs.find? (fun v => v.seq == s) = some v
  | [], _, h => by obtain ⟨v, hv, _⟩ := h; cases hv
  | x :: l, i, h => by
    by_cases hx : x.seq = s
    · exact ⟨0, x, rfl, by simp [Lib.idxByFrom, hx], by simp [hx]⟩
    · obtain ⟨v, hv, hs⟩ := h
      have hv' : v ∈ l := by
        rcases List.mem_cons.1 hv with rfl | h'
        · exact absurd hs hx
        · exact h'
      obtain ⟨k, v', h1, h2, h3⟩ := find_idx s l (i + 1) ⟨v, hv', hs⟩
      refine ⟨k + 1, v', by simpa using h1, ?_, by simp [hx, h3]⟩
      have : (x.seq == s) = false := beq_eq_false_iff_ne.2 hx
      simp only [Lib.idxByFrom, this, Bool.false_eq_true, if_false, h2]
      congr 1; omega

theorem same_take (key : ByteArray) : ∀ (l : List RowV) (m : Nat), m ≤ l.length → (∀ j r, j < m → l[j]? = some r → (r.key.toList == key.toList) = true) → (∀ r, l[m]? = some r → (r.key.toList == key.toList) = false) →
    sameKey key l = l.take m ∧ behindKey key l = l.drop m
  | [], 0, _, _, _ => ⟨rfl, rfl⟩
  | [], m + 1, h, _, _ => by simp at h
  | r :: l, 0, _, _, h2 => by
    have := h2 r rfl
    simp [sameKey, behindKey, this]
  | r :: l, m + 1, h, h1, h2 => by
    have hr := h1 0 r (by omega) rfl
    obtain ⟨e1, e2⟩ := same_take key l m (by simpa using h) (fun j r' hj hr' => h1 (j + 1) r' (by omega) (by simpa using hr')) (fun r' hr' => h2 r' (by simpa using hr'))
    simp [sameKey, behindKey, hr, e1, e2]

theorem row_cells {w : World} {b off : Nat} {r : RowV} (h : ∀ j u, r.cells[j]? = some u → w.cell? ⟨b, off + j, none⟩ = some u) :
    w.cell? ⟨b, off, none⟩ = some (.string r.key) ∧ (∀ j u, r.ver.cells[j]? = some u → w.cell? ⟨b, off + 3 + j, none⟩ = some u) := by
  refine ⟨h 0 _ rfl, fun j u hj => ?_⟩
  have hlt : j < 8 := by have := (List.getElem?_eq_some_iff.1 hj).1; simpa [VersionV.cells] using this
  have := h (3 + j) u (by
    unfold RowV.cells
    rw [List.append_assoc, List.getElem?_append_right (by simp), List.getElem?_append_left (by simp [VersionV.cells]; omega)]
    simpa using hj)
  rw [show off + 3 + j = off + (3 + j) from by omega]; exact this

theorem up_cells {w : World} {b off : Nat} {r : UploadV} (h : ∀ j u, r.cells[j]? = some u → w.cell? ⟨b, off + j, none⟩ = some u) :
    w.cell? ⟨b, off, none⟩ = some (.int .i64 r.seq) ∧ w.cell? ⟨b, off + 1, none⟩ = some (.string r.bucket) ∧ w.cell? ⟨b, off + 2, none⟩ = some (.string r.key) ∧ w.cell? ⟨b, off + 3, none⟩ = some (.string r.typ) ∧
    w.cell? ⟨b, off + 4, none⟩ = some (.string r.owner) ∧ w.cell? ⟨b, off + 5, none⟩ = some (.int .i64 r.when_) ∧ w.cell? ⟨b, off + 6, none⟩ = some (.slice r.pA r.pN r.pC) :=
  ⟨h 0 _ rfl, h 1 _ rfl, h 2 _ rfl, h 3 _ rfl, h 4 _ rfl, h 5 _ rfl, h 6 _ rfl⟩

theorem nextRows_cons {rs : List RuleV} {mode : Int} {name : ByteArray} {now : Int} {f : Nat} {l : List RowV} {r : RowV} (h : l[0]? = some r) :
    nextRows rs mode name now (f + 1) l = match nextKey rs mode name now r.key ((sameKey r.key l).map RowV.ver) with | some v => some v | none => nextRows rs mode name now f (behindKey r.key l) := by
  cases l with
  | nil => cases h
  | cons x t => simp at h; subst h; rfl

end Go.Proofs.YtnnfcbebjbfkoaaDoor
