/-
  The place that the reference's ReadKey fills: where it lies, its cells stored one by one; contracts of what it calls in one form.
-/
import Derived.Test.YtajmkkjlhmeolaaGreatDoorMkPlaceP
import Derived.Test.YtajmkkjlhmeolaaGreatDoorMkReadNum
import Derived.Test.YtajmkkjlhmeolaaGreatDoorMkKeys2
import Derived.Test.YtajmkkjlhmeolaaGreatDoorMkPart
namespace Go.Proofs.YtajmkkjlhmeolaaGreatDoor
open Go.RowKit Go.Lib

structure RqAt (w wk : World) (cs : Array Value) : Prop where
  x : wk.heap[w.heap.size + 1]? = some (.cells cs 34 (0, 0))
  z : wk.heap[w.heap.size]? = some (.cells placeZero 34 (0, 0))
  b : Below w.heap.size w wk
theorem RqAt.later {w wk wl : World} {cs : Array Value} (h : RqAt w wk cs) (hb : Below wk.heap.size wk wl) : RqAt w wl cs :=
  have hs := (Array.getElem?_eq_some_iff.1 h.x).1
  ⟨(hb.block _ hs).trans h.x, (hb.block _ (by omega)).trans h.z, h.b.trans (hb.mono h.b.size)⟩
theorem RqAt.set {w wk : World} {cs : Array Value} (h : RqAt w wk cs) (new : Array Value) : RqAt w (wk.setRow (w.heap.size + 1) new) new :=
  ⟨setRow_heap _ _ _ _ _ _ h.x, (setRow_other _ _ _ _ (by omega)).trans h.z, below_one_row _ _ _ _ _ h.b (by omega)⟩
theorem RqAt.cell {w wk : World} {cs new : Array Value} (h : RqAt w wk cs) (o : Nat) (v : Value) (hn : cs.setIfInBounds o v = new) : RqAt w (wk.setCell ⟨w.heap.size + 1, o, none⟩ v).drew new := by
  subst hn
  exact ⟨heap_set h.x v, (Below.heap_setCell _ _ _ _ (by simp)).trans h.z, (h.b.setCell (by simp) v).drew⟩
/-- one cell of the place is stored; the world behind it by its facts alone -/
theorem wpList_place_store {P : Program} {ops : Array Oper} {rest : List Oper} {o : Oper} {a : Act} {w0 w : World} {Q : Exit → Act → World → Prop} (hgd : o.guard = none) (ty : TypeId) (x y : Operand) (ho : o.op = .store ty x y)
    (off : Nat) (v v' : Value) (hx : a.eval x = .pointer (some ⟨w0.heap.size + 1, off, none⟩)) (hy : a.eval y = v) (hv : v = v') (h1 : v'.oneCell' = true)
    (cs : Array Value) (K : RqAt w0 w cs) (hoff : off < cs.size) (hi : (P.info? ty).map (·.size) = some 1) (c0 c1 c2 c3 c4 : Value) (hc : cs.setIfInBounds off v' = #[c0, c1, c2, c3, c4])
    (h : ∀ W, RqAt w0 W #[c0, c1, c2, c3, c4] → W.cell? ⟨w0.heap.size + 1, 1, none⟩ = some c1 → W.cell? ⟨w0.heap.size + 1, 2, none⟩ = some c2 → W.cell? ⟨w0.heap.size + 1, 3, none⟩ = some c3 → W.cell? ⟨w0.heap.size + 1, 4, none⟩ = some c4 → wpList P ops Q rest (a.put o.dst undef) W) :
    wpList P ops Q (o :: rest) a w := by
  subst hv
  refine wpList_store_at hgd ty x y ho (w0.heap.size + 1) off v hx hy h1 cs _ K.x hoff hi ?_
  have K' := K.set (cs.setIfInBounds off v)
  rw [hc] at K' ⊢
  exact h _ K' (cell_of_heap K'.x) (cell_of_heap K'.x) (cell_of_heap K'.x) (cell_of_heap K'.x)

theorem rReadNumberB (s : List UInt8) (hl : s.length ≤ 140737488355328) (w : World) : Calls Tryz.prog 18 #[.string ⟨s.toArray⟩] w (NumRdOut (readNum s) w) := by
  refine (rReadNumber_any s w hl).mono ?_
  rintro e w' ⟨h, q, rfl⟩
  exact ⟨h, belowDrewN (Below.refl _ _) _⟩
theorem rBucketKeyB (b : List UInt8) (hb : b.length ≤ 140737488355328) (w : World) : Calls Tryz.prog 20 #[.string ⟨b.toArray⟩] w (StrOut (bucketKeyL b) w) := by
  refine (rBucketKey_any b hb w).mono ?_
  rintro e w' ⟨h, rfl⟩
  exact ⟨h, Below.refl _ _⟩
theorem rVersionKeyB (b k : List UInt8) (n : Int) (hb : b.length ≤ 140737488355328) (hk : k.length ≤ 140737488355328) (hn : IntOK n) (w : World) : Calls Tryz.prog 21 #[.string ⟨b.toArray⟩, .string ⟨k.toArray⟩, .int .i64 n] w (StrOut (versionKeyL b k n) w) := by
  refine (rVersionKey_any b k n hb hk hn w).mono ?_
  rintro e w' ⟨h, rfl⟩
  exact ⟨h, Below.refl _ _⟩
theorem rUploadKeyB (n : Int) (hn : IntOK n) (w : World) : Calls Tryz.prog 22 #[.int .i64 n] w (StrOut (keyL [117, 47] n) w) := by
  refine (rUploadKey_any n hn w).mono ?_
  rintro e w' ⟨h, rfl⟩
  exact ⟨h, Below.refl _ _⟩
theorem rBlobKeyB (n : Int) (hn : IntOK n) (w : World) : Calls Tryz.prog 25 #[.int .i64 n] w (StrOut (keyL [100, 47] n) w) := by
  refine (rBlobKey_any n hn w).mono ?_
  rintro e w' ⟨h, rfl⟩
  exact ⟨h, Below.refl _ _⟩
theorem rPartKeyB (n m : Int) (hn : IntOK n) (hm : IntOK m) (w : World) : Calls Tryz.prog 24 #[.int .i64 n, .int .i64 m] w (StrOut (partKeyL n m) w) := by
  refine (rPartKey_any n m hn hm w).mono ?_
  rintro e w' ⟨h, q, rfl⟩
  exact ⟨h, belowDrewN (Below.refl _ _) _⟩

/-- where a text is cut first -/
theorem cut_first (rest : List UInt8) : (cut1 rest 47).1.length ≤ rest.length ∧ (∀ j, (h : j < rest.length) → j < (cut1 rest 47).1.length → rest[j] ≠ 47) ∧ (∀ h : (cut1 rest 47).1.length < rest.length, rest[(cut1 rest 47).1.length] = 47) := by
  unfold cut1
  rcases indexByte_cases rest 47 with ⟨h1, h2⟩ | ⟨i, hi, hlt, h3, h4⟩
  · rw [h1, if_neg (by omega)]
    exact ⟨Nat.le_refl _, fun j h1 _ h3 => h2 (by rw [← h3]; exact List.getElem_mem _), fun h => absurd h (Nat.lt_irrefl _)⟩
  · rw [hi, if_pos (by omega)]
    have hl : (rest.take i).length = i := by rw [List.length_take]; omega
    simp only [Int.toNat_natCast, hl]
    refine ⟨by omega, fun j h1 h2 e => h4 ?_, fun h => (List.getElem?_eq_some_iff.1 h3).2⟩
    rw [← e, ← List.getElem_take (xs := rest) (j := i) (h := by omega)]
    exact List.getElem_mem _

end Go.Proofs.YtajmkkjlhmeolaaGreatDoor
