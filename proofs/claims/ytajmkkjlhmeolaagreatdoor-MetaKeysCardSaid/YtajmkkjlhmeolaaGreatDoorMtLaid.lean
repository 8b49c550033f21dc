/-
  WHAT THE ROW's LIST GIVES of the package-level variables (chapter 19).
-/
import Derived.Test.YtajmkkjlhmeolaaGreatDoorMtBucket
import Derived.Test.YtajmkkjlhmeolaaGreatDoorOpen
import Derived.Lib.LaidTab
import Derived.Lib.LaidU8
import Derived.Lib.LaidCase
namespace Go.Proofs.YtajmkkjlhmeolaaGreatDoor
open Go.RowKit Go.Lib

def laidAll : List (String × DataW Unit) := [("math/bits.deBruijn32tab", Rows.laid_math_bits_deBruijn32tab), ("math/bits.deBruijn64tab", Rows.laid_math_bits_deBruijn64tab), ("internal/strconv.uint64pow10", Rows.laid_internal_strconv_uint64pow10), ("unicode/utf8.acceptRanges", Rows.laid_unicode_utf8_acceptRanges), ("strconv.ErrRange", Rows.laid_strconv_ErrRange), ("strconv.ErrSyntax", Rows.laid_strconv_ErrSyntax), ("unicode.CaseRanges", Rows.laid_unicode_CaseRanges), ("unicode/utf8.first", Rows.laid_unicode_utf8_first)]

theorem laidMet_tail {P : Program} {W : World} {x : String × DataW Unit} {rest : List (String × DataW Unit)} (h : laidMet P (x :: rest) W) : laidMet P rest W := by
  obtain ⟨ps, ⟨g', t', cs, fuel, p, q, hg', ht', hvar, hd, hr, rfl⟩, hn, ha⟩ := h
  exact ⟨q, hr, (List.nodup_append.1 hn).2.1, fun b off hm => ha b off (List.mem_append_right _ hm)⟩

/-- a sentinel: the variable holds an error -/
theorem err_of_head {P : Program} {W : World} {name nm : String} {d : DataW Unit} {rest : List (String × DataW Unit)} {g : Nat} {t : TypeId} {ms : Array (String × TypeId)}
    (hg : P.globalNamed name = some g) (hty : (P.globals[g]?).map (·.type) = some t) (ht : P.underlying t = some (.interface ms)) (h : laidMet P ((name, .iface nm d) :: rest) W) :
    ∃ te pe, W.cell? ⟨g, 0, none⟩ = some (.iface te pe) := by
  obtain ⟨ps, ⟨g', t', cs, fuel, p, q, hg', ht', hvar, hd, _, _⟩, _⟩ := h
  obtain rfl := Option.some.inj (hg.symm.trans hg')
  obtain rfl := Option.some.inj (hty.symm.trans ht')
  have hone : ∃ te pe, cs.toList = [.iface te pe] := by
    cases fuel with
    | zero => simp [DataW.trod] at hd
    | succ fuel =>
      unfold DataW.trod at hd
      split at hd
      all_goals first | (simp_all; done) | skip
      all_goals exact ⟨_, _, by assumption⟩
  obtain ⟨te, pe, hcs⟩ := hone
  refine ⟨te, pe, ?_⟩
  have hc : cs = #[.iface te pe] := by cases cs; simp_all
  subst hc
  exact World.var?_cell hg hvar 0

theorem caseRanges_is : Go.Pinned.caseRanges = Lib.caseData := by kernel_rfl
theorem utf8First_is : Go.Pinned.utf8First = Lib.firstData := by kernel_rfl
theorem tabs_of_laid {W : World} (h : laidMetH Tryz.prog laidAll W) : Lib.Utf8Tabs 5 6 W := by
  have h0 : laidMet Tryz.prog laidAll W := h
  have hf : Lib.VarReads Tryz.prog W "unicode/utf8.first" Lib.firstData := utf8First_is ▸ Lib.laidMet.reads h0 (by simp [laidAll, Rows.laid_unicode_utf8_first])
  have ha : Lib.VarReads Tryz.prog W "unicode/utf8.acceptRanges" Lib.acceptData := Lib.laidMet.reads h0 (.tail _ (.tail _ (.tail _ (.head _))))
  exact utf8Tabs_of_reads { Tryz.lays159 with } ⟨by kernel_rfl, by kernel_rfl, by kernel_rfl, by kernel_rfl, by kernel_rfl, by kernel_rfl, by kernel_rfl⟩ hf ha

theorem glob_of_laid {W : World} (h : laidMetH Tryz.prog laidAll W) : Glob W := by
  have h0 : laidMet Tryz.prog laidAll W := h
  have h1 := laidMet_tail h0
  have h2 := laidMet_tail h1
  have h3 := laidMet_tail h2
  have h4 := laidMet_tail h3
  have h5 := laidMet_tail h4
  have t64 := Lib.tabIs_of_head (P := Tryz.prog) (W := W) (k := .u8) (zs := [0, 1, 56, 2, 57, 49, 28, 3, 61, 58, 42, 50, 38, 29, 17, 4, 62, 47, 59, 36, 45, 43, 51, 22, 53, 39, 33, 30, 24, 18, 12, 5, 63, 55, 48, 27, 60, 41, 37, 16, 46, 35, 44, 21, 52, 32, 23, 11, 54, 26, 40, 15, 34, 20, 31, 10, 25, 14, 19, 9, 13, 8, 7, 6])
    (g := 8) (t := 211) (e := 5) (by kernel_rfl) (by kernel_rfl) Tryz.underlying211 Tryz.underlying5 (by kernel_rfl) (by kernel_rfl) h1
  have tp := Lib.tabIs_of_head (P := Tryz.prog) (W := W) (k := .u64) (zs := Lib.pow10Tab) (g := 3) (t := 186) (e := 160) (by kernel_rfl) (by kernel_rfl) Tryz.underlying186 Tryz.underlying160 (by kernel_rfl) (by kernel_rfl) h2
  have c64 := t64.cell (g := 8) (by kernel_rfl) 15 (by decide)
  have esyn := err_of_head (g := 1) (t := 89) (by kernel_rfl) (by kernel_rfl) Tryz.underlying89 h5
  have eran := err_of_head (g := 2) (t := 89) (by kernel_rfl) (by kernel_rfl) Tryz.underlying89 h4
  refine ⟨?_, c64, tp, esyn, eran⟩
  have c1 := World.block_lt_of_cell? W _ ((tabs_of_laid h).2 0 (by decide)).1
  simp only at c1
  omega

theorem globK_of_laid {W : World} (h : laidMetH Tryz.prog laidAll W) (hs : W.ShapedOpen Tryz.prog) : GlobK W := by
  have h0 : laidMet Tryz.prog laidAll W := h
  have hc : Lib.VarReads Tryz.prog W "unicode.CaseRanges" Lib.caseData := caseRanges_is ▸ Lib.laidMet.reads h0 (by simp [laidAll, Rows.laid_unicode_CaseRanges])
  refine ⟨glob_of_laid h, Tryz.laysM146.s1_3 W hs, tabs_of_laid h, ?_⟩
  exact caseVar_of_reads { Tryz.lays159 with } Tryz.lays159.t206 ⟨by kernel_rfl, by kernel_rfl, by kernel_rfl, by kernel_rfl, by kernel_rfl, by kernel_rfl⟩ hc

end Go.Proofs.YtajmkkjlhmeolaaGreatDoor
