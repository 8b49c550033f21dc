/-
  What the listed package-level variables hold, as far as the walks want it; kept.
-/
import Derived.Test.YtgklbmcnpnmkkaaDoorBase
import Derived.Lib.ItoaMem
namespace Go.Proofs.YtgklbmcnpnmkkaaDoor
open Go.RowKit

/-- what the listed variables hold, as far as the walks want it -/
structure Glob (w : World) : Prop where
  size : 6 ≤ w.heap.size
  tz : w.cell? ⟨5, 15, none⟩ = some (.int .u8 4)
  pow : Lib.TabIs Tryd.prog w "internal/strconv.uint64pow10" .u64 Lib.pow10Tab
  esyn : ∃ te pe, w.cell? ⟨2, 0, none⟩ = some (.iface te pe)
  eran : ∃ te pe, w.cell? ⟨3, 0, none⟩ = some (.iface te pe)

theorem Glob.later {w w' : World} (h : Glob w) (hb : Below w.heap.size w w') : Glob w' :=
  ⟨Nat.le_trans h.size hb.size, cell_later hb h.tz, var?_below (g := 1) hb (by kernel_rfl) (by have := h.size; omega) h.pow,
    by obtain ⟨a, b, c⟩ := h.esyn; exact ⟨a, b, cell_later hb c⟩, by obtain ⟨a, b, c⟩ := h.eran; exact ⟨a, b, cell_later hb c⟩⟩

end Go.Proofs.YtgklbmcnpnmkkaaDoor
