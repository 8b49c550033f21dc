/-
  WHAT THE ROWS OF CHAPTER 20 SHARE: the variables' facts, internal/bytealg.MaxLen's among them.
-/
import Derived.Test.YtgklbmcnpnmkkaaDoorRowKit
import Derived.Test.YtgklbmcnpnmkkaaDoorLsExP
import Derived.Test.YtgklbmcnpnmkkaaDoorBulk
namespace Go.Proofs.YtgklbmcnpnmkkaaDoor
open Go.RowKit

/-- a variable of type int holds some number -/
theorem int_of_shape {P : Program} {w : World} {g : Nat} {t : TypeId} {zero : Array Value} (h : w.ShapedOpen P) (hg : g < P.globals.size)
    (h0 : ((begin P (fun _ _ => 0) default).world.heap[g]?).bind Obj.row? = some (zero, t)) (hz : zero.size = 1)
    (hb : P.buildable t = true) (hc : P.cellTypes P.depth t = some [t]) (hu : P.underlying t = some (.int .i64)) : ∃ m, w.cell? ⟨g, 0, none⟩ = some (.int .i64 m) := by
  obtain ⟨cs, hh, hs, hr⟩ := h.1 g zero t hg h0
  obtain ⟨ts, hts, _, hall⟩ := hr hb
  rw [hc] at hts
  cases hts
  have h1 : 0 < cs.size := by omega
  obtain ⟨u, hu', hok⟩ := hall 0 cs[0] (by simp [h1])
  have : u = t := by simpa using hu'.symm
  subst this
  have hcell : w.cell? ⟨g, 0, none⟩ = some cs[0] := by simp [World.cell?, hh, h1]
  rw [hcell]
  unfold Cell.ok at hok
  rw [hu] at hok
  cases hv : cs[0] <;> rw [hv] at hok <;> simp_all
theorem globL_of_laid {W : World} (h : laidMetH Tryd.prog laidAll W) (hs : W.ShapedOpen Tryd.prog) : GlobL W :=
  ⟨glob_of_laid h, int_of_shape (t := 3) (zero := #[.int .i64 0]) hs (of_decide_eq_true (by kernel_rfl)) (by kernel_rfl) rfl (by kernel_rfl) (by kernel_rfl) Tryd.underlying3⟩
theorem row_bulk {H : Type} {x d1 d2 d3 d4 : DataW H} {es sps : List (DataW H)} (h : x = .slice es sps ∨ (es = [] ∧ x = .nil)) {i : Nat} {k : List UInt8} (hd : es[i]? = some (.agg [.lit (.string k), d1, d2, d3, d4])) : k.length ≤ Rows.uptoBulk x := by
  rcases h with rfl | ⟨rfl, _⟩
  · have h1 := bulks.part_le (List.mem_of_getElem? hd)
    have h2 := bulks.slice_elems es sps
    simp only [Rows.uptoBulk, Rows.uptoBulkAll] at h1 h2 ⊢
    omega
  · simp at hd
end Go.Proofs.YtgklbmcnpnmkkaaDoor
