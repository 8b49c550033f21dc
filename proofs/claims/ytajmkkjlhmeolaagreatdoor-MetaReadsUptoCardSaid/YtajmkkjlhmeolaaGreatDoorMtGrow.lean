/-
  A slice that grows while a record is read: what holds, what stays.
-/
import Derived.Test.YtajmkkjlhmeolaaGreatDoorMtReadUp
import Derived.Deep.AppendLies
namespace Go.Proofs.YtajmkkjlhmeolaaGreatDoor
open Go.RowKit

theorem SlAt.kept {w w' : World} {sz : Nat} {v : Value} {rows : List (List Value)} (h : SlAt w sz v rows) (hb : ∀ b o u, w.cell? ⟨b, o, none⟩ = some u → w'.cell? ⟨b, o, none⟩ = some u) : SlAt w' sz v rows := by
  obtain ⟨a, c, rfl, hl, h⟩ := h
  refine ⟨a, c, rfl, hl, fun i r hr => ?_⟩
  obtain ⟨b, off, rfl, hc⟩ := h i r hr
  exact ⟨b, off, rfl, fun j u hu => hb _ _ _ (hc j u hu)⟩
theorem SlAt.later {w w' : World} {sz : Nat} {v : Value} {rows : List (List Value)} (h : SlAt w sz v rows) (hb : Below w.heap.size w w') : SlAt w' sz v rows :=
  h.kept fun b o u hu => by rw [World.cell?_of_block (w := w) (hb.block b (World.block_lt_of_cell? w _ hu))]; exact hu

theorem flatten_get {sz : Nat} : ∀ {rows : List (List Value)} {i j : Nat} {r : List Value} {u : Value}, (∀ r ∈ rows, r.length = sz) → rows[i]? = some r → r[j]? = some u → rows.flatten[i * sz + j]? = some u
  | [], i, j, r, u, _, h, _ => by simp at h
  | r0 :: rows, 0, j, r, u, hs, h, hu => by
    simp only [List.getElem?_cons_zero, Option.some.injEq] at h
    subst h
    have hj := (List.getElem?_eq_some_iff.1 hu).1
    simp only [List.flatten_cons, Nat.zero_mul, Nat.zero_add]
    rw [List.getElem?_append_left hj]
    exact hu
  | r0 :: rows, i + 1, j, r, u, hs, h, hu => by
    have h0 := hs r0 (by simp)
    have ih := flatten_get (sz := sz) (rows := rows) (i := i) (j := j) (fun r hr => hs r (by simp [hr])) (by simpa using h) hu
    simp only [List.flatten_cons]
    rw [List.getElem?_append_right (by rw [h0, Nat.add_mul]; omega), h0, show (i + 1) * sz + j - sz = i * sz + j by rw [Nat.add_mul]; omega]
    exact ih
theorem own_slAt {w : World} {base : Nat} {e : TypeId} {sz : Nat} {v : Value} {rows : List (List Value)} (h : w.ownsRow base e sz v rows.length rows.flatten) (hs : ∀ r ∈ rows, r.length = sz) (hl : rows.length ≤ 140737488351232) : SlAt w sz v rows := by
  rcases h.2 with ⟨rfl, h0⟩ | ⟨g, cap, cur, rfl, hb, hg, hn, hm, hcs, ht⟩
  · obtain rfl := List.eq_nil_of_length_eq_zero h0
    exact ⟨none, 0, rfl, hl, fun i r hr => by simp at hr⟩
  · refine ⟨_, cap, rfl, hl, fun i r hr => ⟨g, 0, rfl, fun j u hu => ?_⟩⟩
    have hf := flatten_get hs hr hu
    rw [← ht] at hf
    have hlt := (List.getElem?_eq_some_iff.1 hf).1
    rw [List.length_take] at hlt
    rw [List.getElem?_take, if_pos (by omega), Array.getElem?_toList] at hf
    rw [Nat.zero_add]
    simp only [World.cell?, hg]
    simpa using hf
theorem own_kept {w w' : World} {base : Nat} {e : TypeId} {sz : Nat} {v : Value} {n : Nat} {xs : List Value} (h : w.ownsRow base e sz v n xs) (hk : ∀ g, base ≤ g → g < w.heap.size → w'.heap[g]? = w.heap[g]?) : w'.ownsRow base e sz v n xs := by
  refine ⟨h.1, ?_⟩
  rcases h.2 with h1 | ⟨g, cap, cur, hv, hg, hh, r⟩
  · exact .inl h1
  · exact .inr ⟨g, cap, cur, hv, hg, by rw [hk g hg (Array.getElem?_eq_some_iff.1 hh).1]; exact hh, r⟩

theorem RdAt.grown {w wk w' : World} {b : Nat} {f : Fs} {zc : Array Value} {zt : TypeId} {row : Option Nat} (h : RdAt w wk b f zc zt) (hg : wk.grownBy w' row) (hr : ∀ g, row = some g → b < g) : RdAt w w' b f zc zt := by
  have hb := h.hb
  have hB : Below w.heap.size wk w' := ⟨hg.os, hg.tape, hg.output, hg.size, fun k hk => hg.block k (Nat.lt_of_lt_of_le hk h.below.size) (fun e => by have := hr k e.symm; omega)⟩
  exact ⟨(hg.block _ h.inf.lt (fun e => by have := hr b e.symm; omega)).trans h.inf, h.glob.under h.nine hB, h.below.trans hB, hb, h.nine, (hg.block _ (by have := h.inf.lt; omega) (fun e => by have := hr _ e.symm; omega)).trans h.rb⟩
theorem BoxAt.grown {w wk w' : World} {g : Nat} {cs : Array Value} {t : TypeId} {row : Option Nat} (h : BoxAt w wk g cs t) (hg : wk.grownBy w' row) (hr : row ≠ some g) : BoxAt w w' g cs t :=
  ⟨(hg.block _ h.lt (fun e => hr e.symm)).trans h.at_, h.far⟩
theorem RdAt.cellFar {w wk : World} {b : Nat} {f : Fs} {zc : Array Value} {zt : TypeId} (h : RdAt w wk b f zc zt) {g : Nat} (o : Nat) (v : Value) (hg : b < g) : RdAt w (wk.setCell ⟨g, o, none⟩ v) b f zc zt :=
  h.grown (row := some g) (only_set (World.grownBy.refl _ _) _ _) (fun x e => by injection e with e; omega)

/-- while a record's rows are read: gB the block of the value, whose slice v holds what was read -/
structure RowsAt (w wr : World) (b gB : Nat) (f : Fs) (cs zc : Array Value) (T : TypeId) (e : TypeId) (sz : Nat) (v : Value) (rows : List (List Value)) : Prop where
  rd : RdAt w wr b f zc T
  box : BoxAt w wr gB cs T
  own : wr.ownsRow (gB + 1) e sz v rows.length rows.flatten
theorem RowsAt.farb {w wr : World} {b gB : Nat} {f : Fs} {cs zc : Array Value} {T e : TypeId} {sz : Nat} {v : Value} {rows : List (List Value)} (h : RowsAt w wr b gB f cs zc T e sz v rows) : b < gB := by have := h.rd.hb; have := h.box.far; omega
/-- a reader was called -/
theorem RowsAt.next {w wr w' : World} {b gB : Nat} {f f' : Fs} {cs zc : Array Value} {T e : TypeId} {sz : Nat} {v : Value} {rows : List (List Value)} (h : RowsAt w wr b gB f cs zc T e sz v rows) (hf : InF w' b f') (hg : wr.grownBy w' (some b)) : RowsAt w w' b gB f' cs zc T e sz v rows :=
  ⟨h.rd.next hf hg, h.box.next h.rd.hb hg, own_kept h.own fun g h1 h2 => hg.block g h2 (fun e => by injection e with e; have := h.farb; omega)⟩
theorem RowsAt.later {w wr w' : World} {b gB : Nat} {f : Fs} {cs zc : Array Value} {T e : TypeId} {sz : Nat} {v : Value} {rows : List (List Value)} (h : RowsAt w wr b gB f cs zc T e sz v rows) (hb : Below wr.heap.size wr w') : RowsAt w w' b gB f cs zc T e sz v rows :=
  ⟨h.rd.later hb, h.box.later hb, own_kept h.own fun g _ h2 => hb.block g h2⟩
theorem RowsAt.notB {w wr : World} {b gB : Nat} {f : Fs} {cs zc : Array Value} {T e : TypeId} {sz : Nat} {v : Value} {rows : List (List Value)} (h : RowsAt w wr b gB f cs zc T e sz v rows) : v.ownBlock ≠ some gB := by
  intro hx
  rcases h.own.2 with ⟨rfl, _⟩ | ⟨y, _, _, rfl, hy, _⟩
  · cases hx
  · simp only [Value.ownBlock, Option.some.injEq] at hx; omega
/-- a row was appended and the slice laid into its cell -/
theorem RowsAt.push {w wr w1 : World} {b gB : Nat} {f : Fs} {cs zc : Array Value} {T e : TypeId} {sz : Nat} {v : Value} {rows : List (List Value)} {news : List Value} {g cap o : Nat} (h : RowsAt w wr b gB f cs zc T e sz v rows)
    (hown : w1.ownsRow (gB + 1) e sz (.slice (some ⟨g, 0, none⟩) (rows.length + 1) cap) (rows.length + 1) (rows.flatten ++ news)) (hgr : wr.grownBy w1 v.ownBlock) :
    RowsAt w (w1.setCell ⟨gB, o, none⟩ (.slice (some ⟨g, 0, none⟩) (rows.length + 1) cap)) b gB f (cs.setIfInBounds o (.slice (some ⟨g, 0, none⟩) (rows.length + 1) cap)) zc T e sz (.slice (some ⟨g, 0, none⟩) (rows.length + 1) cap) (rows ++ [news]) := by
  have hv : ∀ x, v.ownBlock = some x → gB + 1 ≤ x := fun x hx => by
    rcases h.own.2 with ⟨rfl, _⟩ | ⟨y, _, _, rfl, hy, _⟩
    · cases hx
    · simp only [Value.ownBlock, Option.some.injEq] at hx; omega
  have hb := h.farb
  have R1 := h.rd.grown hgr (fun x hx => by have := hv x hx; omega)
  have X1 := h.box.grown hgr (fun hx => by have := hv _ hx; omega)
  refine ⟨R1.cellFar _ _ hb, ⟨heap_set X1.at_ _, X1.far⟩, ?_⟩
  have hlen : (rows ++ [news]).length = rows.length + 1 := by simp
  have hfl : (rows ++ [news]).flatten = rows.flatten ++ news := by simp
  rw [hlen, hfl]
  exact own_kept hown fun x h1 _ => Below.heap_setCell _ _ _ _ (by simp only; omega)
/-- the flag was set -/
theorem RowsAt.flag {w wr : World} {b gB : Nat} {r : List UInt8} {x : Bool} {cs zc : Array Value} {T e : TypeId} {sz : Nat} {v : Value} {rows : List (List Value)} (h : RowsAt w wr b gB ⟨r, x⟩ cs zc T e sz v rows) (y : Bool) : RowsAt w (wr.setCell ⟨b, 1, none⟩ (.bool y)) b gB ⟨r, y⟩ cs zc T e sz v rows :=
  h.next (inF_bad h.rd.inf y) (only_set (World.grownBy.refl _ _) _ _)

end Go.Proofs.YtajmkkjlhmeolaaGreatDoor
