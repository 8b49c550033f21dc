/-
  What a call leaves: but for some blocks, and new ones, the world is as it was.
-/
import Derived.Test.YtgklbmcnpnmkkaaDoorBase
namespace Go.Proofs.YtgklbmcnpnmkkaaDoor
open Go.RowKit

/-- but for the blocks M, and new ones, the world is as it was -/
structure Chg (w w' : World) (M : Nat → Prop) : Prop where
  os : w'.os = w.os
  tape : w'.tape = w.tape
  output : w'.output = w.output
  size : w.heap.size ≤ w'.heap.size
  block : ∀ k, k < w.heap.size → ¬ M k → w'.heap[k]? = w.heap[k]?

theorem Chg.refl (w : World) (M : Nat → Prop) : Chg w w M := ⟨rfl, rfl, rfl, Nat.le_refl _, fun _ _ _ => rfl⟩
theorem Chg.trans {a b c : World} {M : Nat → Prop} (h : Chg a b M) (k : Chg b c M) : Chg a c M :=
  ⟨k.os.trans h.os, k.tape.trans h.tape, k.output.trans h.output, Nat.le_trans h.size k.size, fun i hi hm => (k.block i (Nat.lt_of_lt_of_le hi h.size) hm).trans (h.block i hi hm)⟩
theorem Chg.mono {w w' : World} {M N : Nat → Prop} (h : Chg w w' M) (hm : ∀ k, k < w.heap.size → M k → N k) : Chg w w' N := ⟨h.os, h.tape, h.output, h.size, fun k hk hn => h.block k hk (fun x => hn (hm k hk x))⟩
theorem Chg.of_below {w w' : World} {M : Nat → Prop} (h : Below w.heap.size w w') : Chg w w' M := ⟨h.os, h.tape, h.output, h.size, fun k hk _ => h.block k hk⟩
theorem Chg.below {B : Nat} {w w' : World} {M : Nat → Prop} (h : Chg w w' M) (hB : B ≤ w.heap.size) (hm : ∀ k, M k → B ≤ k) : Below B w w' := ⟨h.os, h.tape, h.output, h.size, fun k hk => h.block k (by omega) (fun x => by have := hm k x; omega)⟩
theorem Chg.grown {w w' : World} {row : Option Nat} (h : w.grownBy w' row) : Chg w w' (fun b => some b = row) := ⟨h.os, h.tape, h.output, h.size, h.block⟩
theorem Chg.set (w : World) (a : Addr) (v : Value) : Chg w (w.setCell a v) (fun b => b = a.block) := ⟨rfl, rfl, rfl, by simp [World.setCell], fun k _ hk => Below.heap_setCell _ _ _ _ hk⟩

end Go.Proofs.YtgklbmcnpnmkkaaDoor
