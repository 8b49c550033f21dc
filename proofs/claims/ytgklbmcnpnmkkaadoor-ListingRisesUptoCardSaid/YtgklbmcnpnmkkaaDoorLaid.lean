/-
  WHAT THE ROW's LIST GIVES of the package-level variables.
-/
import Derived.Test.YtgklbmcnpnmkkaaDoorGlob
import Derived.Lib.LaidTab
import Derived.Test.YtgklbmcnpnmkkaaDoorOpen
namespace Go.Proofs.YtgklbmcnpnmkkaaDoor
open Go.RowKit

def laidAll : List (String × DataW Unit) := [("math/bits.deBruijn32tab", Rows.laid_math_bits_deBruijn32tab), ("math/bits.deBruijn64tab", Rows.laid_math_bits_deBruijn64tab), ("internal/strconv.uint64pow10", Rows.laid_internal_strconv_uint64pow10), ("strconv.ErrRange", Rows.laid_strconv_ErrRange), ("strconv.ErrSyntax", Rows.laid_strconv_ErrSyntax)]

theorem laidMet_tail {P : Program} {W : World} {x : String × DataW Unit} {rest : List (String × DataW Unit)} (h : laidMet P (x :: rest) W) : laidMet P rest W := by
  obtain ⟨ps, ⟨g', t', cs, fuel, p, q, hg', ht', hvar, hd, hr, rfl⟩, hn, ha⟩ := h
  exact ⟨q, hr, (List.nodup_append.1 hn).2.1, fun b off hm => ha b off (List.mem_append_right _ hm)⟩

/-- a sentinel: the variable holds an error -/
theorem err_of_head {P : Program} {W : World} {name nm : String} {d : DataW Unit} {rest : List (String × DataW Unit)} {g : Nat} {t : TypeId} {ms : Array (String × TypeId)}
    (hg : P.globalNamed name = some g) (hty : (P.globals[g]?).map (·.type) = some t) (ht : P.underlying t = some (.interface ms)) (h : laidMet P ((name, .iface nm d) :: rest) W) :
    ∃ te pe, W.cell? ⟨g, 0, none⟩ = some (.iface te pe) := by
  obtain ⟨ps, ⟨g', t', cs, fuel, p, q, hg', ht', hvar, hd, _, _⟩, _⟩ := h
  obtain rfl := Option.some.inj (hg.symm.trans hg')
  obtain rfl := Option.some.inj (hty.symm.trans ht')
  have hone : ∃ te pe, cs.toList = [.iface te pe] := by
    cases fuel with
    | zero => simp [DataW.trod] at hd
    | succ fuel =>
      unfold DataW.trod at hd
      split at hd
      all_goals first | (simp_all; done) | skip
      all_goals exact ⟨_, _, by assumption⟩
  obtain ⟨te, pe, hcs⟩ := hone
  refine ⟨te, pe, ?_⟩
  have hc : cs = #[.iface te pe] := by cases cs; simp_all
  subst hc
  exact World.var?_cell hg hvar 0

theorem glob_of_laid {W : World} (h : laidMetH Tryd.prog laidAll W) : Glob W := by
  have h0 : laidMet Tryd.prog laidAll W := h
  have h1 := laidMet_tail h0
  have h2 := laidMet_tail h1
  have h3 := laidMet_tail h2
  have h4 := laidMet_tail h3
  have t64 := Lib.tabIs_of_head (P := Tryd.prog) (W := W) (k := .u8) (zs := [0, 1, 56, 2, 57, 49, 28, 3, 61, 58, 42, 50, 38, 29, 17, 4, 62, 47, 59, 36, 45, 43, 51, 22, 53, 39, 33, 30, 24, 18, 12, 5, 63, 55, 48, 27, 60, 41, 37, 16, 46, 35, 44, 21, 52, 32, 23, 11, 54, 26, 40, 15, 34, 20, 31, 10, 25, 14, 19, 9, 13, 8, 7, 6])
    (g := 5) (t := 144) (e := 5) (by kernel_rfl) (by kernel_rfl) Tryd.underlying144 Tryd.underlying5 (by kernel_rfl) (by kernel_rfl) h1
  have tp := Lib.tabIs_of_head (P := Tryd.prog) (W := W) (k := .u64) (zs := Lib.pow10Tab) (g := 1) (t := 126) (e := 107) (by kernel_rfl) (by kernel_rfl) Tryd.underlying126 Tryd.underlying107 (by kernel_rfl) (by kernel_rfl) h2
  have c64 := t64.cell (g := 5) (by kernel_rfl) 15 (by decide)
  refine ⟨?_, c64, tp, err_of_head (g := 2) (t := 81) (by kernel_rfl) (by kernel_rfl) Tryd.underlying81 h4, err_of_head (g := 3) (t := 81) (by kernel_rfl) (by kernel_rfl) Tryd.underlying81 h3⟩
  have := World.block_lt_of_cell? W _ c64
  simp only at this
  omega

end Go.Proofs.YtgklbmcnpnmkkaaDoor
