/-
  The reference's readers of records with rows: what holds while rows are read out of a list of texts.
-/
import Derived.Test.YtajmkkjlhmeolaaGreatDoorMfReadUpR
import Derived.Test.YtajmkkjlhmeolaaGreatDoorMtReadBk
namespace Go.Proofs.YtajmkkjlhmeolaaGreatDoor
open Go.RowKit Go.Lib

theorem rFields_count : ∀ (k : Nat) (s : List UInt8) (l : List (List UInt8)), rFields k s = some l → l.length ≤ s.length
  | 0, s, l, h => by
    unfold rFields at h
    split at h
    · obtain rfl := Option.some.inj h; simp
    · cases h
  | k + 1, s, l, h => by
    unfold rFields at h
    split at h
    · obtain rfl := Option.some.inj h; simp
    · split at h
      · rename_i a r har
        cases hr : rFields k r with
        | none => rw [hr] at h; cases h
        | some m =>
          rw [hr] at h
          obtain rfl := Option.some.inj h
          have := rFields_count k r m hr
          have := rTake_len har
          simp only [List.length_cons]
          omega
      · cases h
theorem fieldsL_count {s : List UInt8} {l : List (List UInt8)} (h : fieldsL s = some l) : l.length ≤ s.length := rFields_count _ _ _ h

/-- the texts of a slice that has some -/
theorem strs_in {w : World} {l : List (List UInt8)} {v : Value} (h : SlAt w 1 v (strRows l)) (hne : 0 < l.length) : ∃ g off c, v = .slice (some ⟨g, off, none⟩) l.length c ∧ ∀ i t, l[i]? = some t → w.cell? ⟨g, off + i, none⟩ = some (.string ⟨t.toArray⟩) := by
  obtain ⟨a, c, rfl, hq⟩ := strs_at h
  obtain ⟨t0, h0⟩ : ∃ t, l[0]? = some t := ⟨_, List.getElem?_eq_getElem hne⟩
  obtain ⟨g, off, rfl, _⟩ := hq 0 t0 h0
  refine ⟨g, off, c, rfl, fun i t ht => ?_⟩
  obtain ⟨_, _, he, hc⟩ := hq i t ht
  simp only [Option.some.injEq, Addr.mk.injEq] at he
  obtain ⟨rfl, rfl, _⟩ := he
  exact hc

/-- while rows are read out of a list: w1 the world behind the list's making, gB the block of the value, whose slice v holds what was read -/
structure RowsRf (w1 wr : World) (gB : Nat) (cs : Array Value) (T : TypeId) (e : TypeId) (sz : Nat) (v : Value) (rows : List (List Value)) : Prop where
  below : Below w1.heap.size w1 wr
  box : wr.heap[gB]? = some (.cells cs T (0, 0))
  far : w1.heap.size ≤ gB
  own : wr.ownsRow (gB + 1) e sz v rows.length rows.flatten
theorem RowsRf.lt {w1 wr : World} {gB : Nat} {cs : Array Value} {T e : TypeId} {sz : Nat} {v : Value} {rows : List (List Value)} (h : RowsRf w1 wr gB cs T e sz v rows) : gB < wr.heap.size := (Array.getElem?_eq_some_iff.1 h.box).1
theorem RowsRf.later {w1 wr w' : World} {gB : Nat} {cs : Array Value} {T e : TypeId} {sz : Nat} {v : Value} {rows : List (List Value)} (h : RowsRf w1 wr gB cs T e sz v rows) (hb : Below wr.heap.size wr w') : RowsRf w1 w' gB cs T e sz v rows :=
  ⟨h.below.trans (hb.mono h.below.size), (hb.block gB h.lt).trans h.box, h.far, own_kept h.own fun g _ h2 => hb.block g h2⟩
theorem RowsRf.ge {w1 wr : World} {gB : Nat} {cs : Array Value} {T e : TypeId} {sz : Nat} {v : Value} {rows : List (List Value)} (h : RowsRf w1 wr gB cs T e sz v rows) : ∀ x, v.ownBlock = some x → gB + 1 ≤ x := fun x hx => by
  rcases h.own.2 with ⟨rfl, _⟩ | ⟨y, _, _, rfl, hy, _⟩
  · cases hx
  · simp only [Value.ownBlock, Option.some.injEq] at hx; omega
/-- an append: the block of the value is as it was -/
theorem RowsRf.grown {w1 wr w' : World} {gB : Nat} {cs : Array Value} {T e : TypeId} {sz : Nat} {v : Value} {rows : List (List Value)} (h : RowsRf w1 wr gB cs T e sz v rows) (hgr : wr.grownBy w' v.ownBlock) : w'.heap[gB]? = some (.cells cs T (0, 0)) ∧ Below w1.heap.size w1 w' := by
  have hge := h.ge
  have hfar := h.far
  have hlt := h.lt
  refine ⟨(hgr.block _ hlt (fun e => by have := hge gB e.symm; omega)).trans h.box, ?_⟩
  exact h.below.trans ⟨hgr.os, hgr.tape, hgr.output, hgr.size, fun k hk => hgr.block k (Nat.lt_of_lt_of_le hk h.below.size) (fun e => by have := hge k e.symm; omega)⟩
/-- a row was appended and the slice laid into its cell (the block said whole) -/
theorem RowsRf.pushRow {w1 wr w' : World} {gB : Nat} {cs new : Array Value} {T e : TypeId} {sz : Nat} {v : Value} {rows : List (List Value)} {news : List Value} {g cap : Nat} (h : RowsRf w1 wr gB cs T e sz v rows)
    (hown : w'.ownsRow (gB + 1) e sz (.slice (some ⟨g, 0, none⟩) (rows.length + 1) cap) (rows.length + 1) (rows.flatten ++ news)) (hgr : wr.grownBy w' v.ownBlock) :
    RowsRf w1 (w'.setRow gB new) gB new T e sz (.slice (some ⟨g, 0, none⟩) (rows.length + 1) cap) (rows ++ [news]) := by
  obtain ⟨hX, hB⟩ := h.grown hgr
  have hfar := h.far
  refine ⟨?_, setRow_heap _ _ _ _ _ _ hX, h.far, ?_⟩
  · exact below_one_row _ _ _ _ _ hB (by omega)
  have hlen : (rows ++ [news]).length = rows.length + 1 := by simp
  have hfl : (rows ++ [news]).flatten = rows.flatten ++ news := by simp
  rw [hlen, hfl]
  exact own_kept hown fun x h1 _ => setRow_other _ _ _ _ (by omega)
theorem RowsRf.form {w1 wr : World} {gB : Nat} {cs : Array Value} {T e : TypeId} {sz : Nat} {v : Value} {rows : List (List Value)} (h : RowsRf w1 wr gB cs T e sz v rows) : ∃ a c, v = .slice a rows.length c := by
  rcases h.own.2 with ⟨rfl, h0⟩ | ⟨g, cap, cur, rfl, _⟩
  · exact ⟨none, 0, by rw [h0]⟩
  · exact ⟨_, _, rfl⟩

end Go.Proofs.YtajmkkjlhmeolaaGreatDoor
