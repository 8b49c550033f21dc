/-
  READING A RECORD: what holds while it is read; the data of parts, uploads, versions, buckets.
-/
import Derived.Test.YtajmkkjlhmeolaaGreatDoorMtRec
import Derived.Deep.RegionHeld3
import Derived.Deep.DeepCutAuto
import Derived.Deep.CutBlock
import Derived.Laws.Rows
namespace Go.Proofs.YtajmkkjlhmeolaaGreatDoor
open Go.RowKit

theorem Glob.nine {w : World} (h : Glob w) : 9 ≤ w.heap.size := by
  have := World.block_lt_of_cell? w _ h.tz
  simp only at this
  omega

/-- while a record is read: b the block of the fields, the result's box still holds zc -/
structure RdAt (w wk : World) (b : Nat) (f : Fs) (zc : Array Value) (zt : TypeId) : Prop where
  inf : InF wk b f
  glob : Glob wk
  below : Below w.heap.size w wk
  hb : b = w.heap.size + 1
  nine : 9 ≤ w.heap.size
  rb : wk.heap[w.heap.size]? = some (.cells zc zt (0, 0))
theorem RdAt.next {w wk w' : World} {b : Nat} {f f' : Fs} {zc : Array Value} {zt : TypeId} (h : RdAt w wk b f zc zt) (hf : InF w' b f') (hg : wk.grownBy w' (some b)) : RdAt w w' b f' zc zt :=
  ⟨hf, h.glob.only hg (by have := h.hb; have := h.nine; omega) h.inf.lt, h.below.trans (below_only hg (by have := h.hb; omega) h.below.size), h.hb, h.nine,
    (hg.block _ (by have := h.inf.lt; have := h.hb; omega) (fun e => by injection e; have := h.hb; omega)).trans h.rb⟩
theorem RdAt.later {w wk w' : World} {b : Nat} {f : Fs} {zc : Array Value} {zt : TypeId} (h : RdAt w wk b f zc zt) (hb : Below wk.heap.size wk w') : RdAt w w' b f zc zt :=
  ⟨h.inf.later hb, h.glob.later hb, h.below.trans (hb.mono h.below.size), h.hb, h.nine, (hb.block _ (by have := h.inf.lt; have := h.hb; omega)).trans h.rb⟩
theorem RdAt.big {w wk : World} {b : Nat} {f : Fs} {zc : Array Value} {zt : TypeId} (h : RdAt w wk b f zc zt) : 9 ≤ b := by have := h.hb; have := h.nine; omega
theorem RdAt.setRow {w wk : World} {b : Nat} {f : Fs} {zc : Array Value} {zt : TypeId} (h : RdAt w wk b f zc zt) {g : Nat} (new : Array Value) (hg : w.heap.size + 1 < g) : RdAt w (wk.setRow g new) b f zc zt :=
  ⟨(setRow_other _ _ _ _ (by have := h.hb; omega)).trans h.inf, h.glob.under (Nat.le_refl _) (below_one_row _ _ _ _ _ (Below.refl _ _) (by have := h.nine; omega)), below_one_row _ _ _ _ _ h.below (by omega), h.hb, h.nine, (setRow_other _ _ _ _ (by omega)).trans h.rb⟩
theorem RdAt.start {w : World} (hG : Glob w) (s : List UInt8) (zc : Array Value) (zt : TypeId) : RdAt w ((w.alloc (.cells zc zt)).alloc (.cells #[.string ⟨s.toArray⟩, .bool false] 100)) (w.heap.size + 1) ⟨s, false⟩ zc zt := by
  have hb : Below w.heap.size w ((w.alloc (.cells zc zt)).alloc (.cells #[.string ⟨s.toArray⟩, .bool false] 100)) := below_alloc (below_alloc (Below.refl _ _) (Nat.le_refl _) _) (Nat.le_refl _) _
  exact ⟨heap_at1 _ _ _, hG.later hb, hb, rfl, hG.nine, (Below.heap_alloc _ _ _ (by simp)).trans (heap_alloc_new _ _)⟩

/-- a block of the call's own, beyond those two -/
structure BoxAt (w wk : World) (g : Nat) (cs : Array Value) (t : TypeId) : Prop where
  at_ : wk.heap[g]? = some (.cells cs t (0, 0))
  far : w.heap.size + 1 < g
theorem BoxAt.lt {w wk : World} {g : Nat} {cs : Array Value} {t : TypeId} (h : BoxAt w wk g cs t) : g < wk.heap.size := (Array.getElem?_eq_some_iff.1 h.at_).1
theorem BoxAt.next {w wk w' : World} {g b : Nat} {cs : Array Value} {t : TypeId} (h : BoxAt w wk g cs t) (hb : b = w.heap.size + 1) (hg : wk.grownBy w' (some b)) : BoxAt w w' g cs t :=
  ⟨(hg.block _ h.lt (fun e => by injection e; have := h.far; omega)).trans h.at_, h.far⟩
theorem BoxAt.later {w wk w' : World} {g : Nat} {cs : Array Value} {t : TypeId} (h : BoxAt w wk g cs t) (hb : Below wk.heap.size wk w') : BoxAt w w' g cs t := ⟨(hb.block _ h.lt).trans h.at_, h.far⟩
theorem BoxAt.new {w wk : World} {b : Nat} {f : Fs} {zc : Array Value} {zt : TypeId} (h : RdAt w wk b f zc zt) (cs : Array Value) (t : TypeId) : BoxAt w (wk.alloc (.cells cs t)) wk.heap.size cs t :=
  ⟨heap_alloc_new _ _, by have := h.inf.lt; have := h.hb; omega⟩
theorem BoxAt.set {w wk : World} {g : Nat} {cs : Array Value} {t : TypeId} (h : BoxAt w wk g cs t) (new : Array Value) : BoxAt w (wk.setRow g new) g new t := ⟨setRow_heap _ _ _ _ _ _ h.at_, h.far⟩

/-- a part -/
structure PartV where
  num : Int
  size : Int
  when_ : Int
  etag : List UInt8
  blob : Int
def PartV.cells (p : PartV) : Array Value := #[.int .i64 p.num, .int .i64 p.size, .int .i64 p.when_, .string ⟨p.etag.toArray⟩, .int .i64 p.blob]
def partZero : Array Value := #[.int .i64 0, .int .i64 0, .int .i64 0, .string ⟨#[]⟩, .int .i64 0]

def rp1 (s : List UInt8) : Fs := ofF [80] ⟨s, false⟩
def rp2 (s : List UInt8) : Int × Fs := numberF 1 20 (rp1 s)
def rp3 (s : List UInt8) : Int × Fs := numberF 0 9007199254740991 (rp2 s).2
def rp4 (s : List UInt8) : Int × Fs := numberF 0 253402300799 (rp3 s).2
def rp5 (s : List UInt8) : List UInt8 × Fs := shortF 100 (rp4 s).2
def rp6 (s : List UInt8) : Int × Fs := numberF 1 9007199254740991 (rp5 s).2
/-- the part of which a text is the record -/
def readPartL (s : List UInt8) : Option PartV := if doneF (rp6 s).2 = 0 then some ⟨(rp2 s).1, (rp3 s).1, (rp4 s).1, (rp5 s).1, (rp6 s).1⟩ else none

theorem doneF_cases (f : Fs) : doneF f = 0 ∨ doneF f = 59 := by
  unfold doneF
  split
  · exact .inr rfl
  · exact .inl rfl

end Go.Proofs.YtajmkkjlhmeolaaGreatDoor
