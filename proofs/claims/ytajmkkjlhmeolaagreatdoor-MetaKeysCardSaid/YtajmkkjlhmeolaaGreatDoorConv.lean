/-
  Atoi, Itoa in this seat's own form.
-/
import Derived.Test.YtajmkkjlhmeolaaGreatDoorNum
import Derived.Test.YtajmkkjlhmeolaaGreatDoorGlob
import Derived.Lib.ItoaMem
namespace Go.Proofs.YtajmkkjlhmeolaaGreatDoor
open Go.RowKit

theorem below_bytesWorld (w : World) (e : TypeId) (s : ByteArray) : Below w.heap.size w (Lib.bytesWorld w e s) := by
  refine ⟨?_, ?_, ?_, ?_, fun k hk => ?_⟩
  · unfold Lib.bytesWorld World.freeze; split <;> rfl
  · unfold Lib.bytesWorld World.freeze; split <;> rfl
  · unfold Lib.bytesWorld World.freeze; split <;> rfl
  · unfold Lib.bytesWorld World.freeze; split <;> simp
  · unfold Lib.bytesWorld World.freeze
    split
    · exact Below.heap_alloc _ _ _ hk
    · simp only [Array.getElem?_modify]
      rw [if_neg (by omega)]
      exact Below.heap_alloc w.drew _ _ hk

theorem below_grown' (w : World) (k : Nat) (os : Array Obj) : Below w.heap.size w (Sort.grow (w.drewN k) os) := by
  refine ⟨rfl, rfl, rfl, ?_, fun i hi => ?_⟩
  · show w.heap.size ≤ (w.heap ++ os).size
    simp
  · show (w.heap ++ os)[i]? = _
    rw [Array.getElem?_append_left hi]

theorem itoa_any (n : Int) (h : IntOK n) (w : World) (hg : Glob w) : Calls Tryz.prog 58 #[.int .i64 n] w fun e w' => e = .returned (.string ⟨(Lib.itoa n).toArray⟩) ∧ Below w.heap.size w w' := by
  refine (Tryz.strconv_Itoa n h.1 h.2 w hg.pow).mono ?_
  rintro e w' ⟨rfl, k, os, rfl⟩
  exact ⟨rfl, below_grown' _ _ _⟩

theorem atoi_ok (s : ByteArray) (v : Int) (hs : s.size ≤ 1000) (h : Lib.atoiAll s.data.toList = .ok v) (w : World) : Calls Tryz.prog 51 #[.string s] w fun e w' => e = .returned (.tuple #[.int .i64 v, .nilIface]) ∧ Below w.heap.size w w' := by
  refine (Tryz.strconv_Atoi_ok s (by omega) v h w).mono ?_
  rintro e w' ⟨rfl, rfl | ⟨t, rfl⟩⟩
  · exact ⟨rfl, Below.refl _ _⟩
  · refine ⟨rfl, below_bytesWorld _ _ _⟩

/-- .. at what is no number: an error -/
def AtoiBad (w : World) (e : Ending) (w' : World) : Prop := (∃ v N, e = .returned (.tuple #[.int .i64 v, .iface 156 (.pointer (some ⟨N, 0, none⟩))])) ∧ Below w.heap.size w w'
theorem atoi_bad (s : ByteArray) (hs : s.size ≤ 1000) (h : ∀ v, Lib.atoiAll s.data.toList ≠ .ok v) (w : World) (hg : Glob w) : Calls Tryz.prog 51 #[.string s] w (AtoiBad w) := by
  rcases hc : Lib.atoiAll s.data.toList with v | _ | _
  · exact absurd hc (h v)
  · obtain ⟨te, pe, hv⟩ := hg.esyn
    refine (Tryz.strconv_Atoi_syntax s (by omega) hc _ w hv (.inr ⟨te, pe, rfl⟩)).mono ?_
    rintro e w' ⟨N, rfl, _, _, hb⟩
    exact ⟨⟨_, N, rfl⟩, hb⟩
  · obtain ⟨te, pe, hv⟩ := hg.eran
    refine (Tryz.strconv_Atoi_range s (by omega) hc _ w hv (.inr ⟨te, pe, rfl⟩)).mono ?_
    rintro e w' ⟨N, rfl, _, _, hb⟩
    exact ⟨⟨_, N, rfl⟩, hb⟩

end Go.Proofs.YtajmkkjlhmeolaaGreatDoor
