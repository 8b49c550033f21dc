/-
  SEVERAL SMALL TEXTS IN ONE.
-/
import Derived.Test.YtgmgghbocidibaaGreatDoorXmWrite
/-
  storehouselaw15.told: an error's code and place.
-/
namespace Go.Proofs.YtgmgghbocidibaaGreatDoor
open Go.RowKit Go.Lib Go.PlainAid

set_option maxHeartbeats 2000000 in
set_option maxRecDepth 100000 in
theorem told_nil (w : World) : Calls Tryz.prog 11 #[.nilIface] w fun e w' => e = .returned (.tuple #[.int .i64 0, .int .i64 0, .bool true]) ∧ Below w.heap.size w w' := by
  go_enter Tryz.func11, Tryz.ntmps11
  go_wp2
  go_ret3
  exact ⟨rfl, Below.refl _ _⟩
set_option maxHeartbeats 2000000 in
set_option maxRecDepth 100000 in
theorem told_fault {w : World} {F : Nat} {c p : Int} (h : w.heap[F]? = some (.cells #[.int .i64 c, .int .i64 p, .nilIface] 55 (0, 0))) (hc : c ≠ 0) :
    Calls Tryz.prog 11 #[.iface 53 (.pointer (some ⟨F, 0, none⟩))] w fun e w' => e = .returned (.tuple #[.int .i64 c, .int .i64 p, .bool true]) ∧ Below w.heap.size w w' := by
  have k0 : w.cell? ⟨F, 0, none⟩ = some (.int .i64 c) := cell_at h rfl
  have k1 : w.cell? ⟨F, 1, none⟩ = some (.int .i64 p) := cell_at h rfl
  have k2 : w.cell? ⟨F, 2, none⟩ = some .nilIface := cell_at h rfl
  have hcb : (c == 0) = false := beq_eq_false_iff_ne.2 hc
  have HH := Lib.hid h
  clear h
  go_enter Tryz.func11, Tryz.ntmps11
  have hta : ∀ w, (Instr.typeAssert (.iface 53 (.pointer (some ⟨F, 0, none⟩))) 30 53 true).run Tryz.prog w = .ok (.tuple #[.pointer (some ⟨F, 0, none⟩), .bool true]) w := fun w => by kernel_rfl
  go_upto_region 4 with (fail)
  go_wp2_with fail
  go_quiet (fail)
  go_wp2_with fail
  go_ret3
  exact ⟨rfl, below_drewNg w _⟩
end Go.Proofs.YtgmgghbocidibaaGreatDoor

/-
  storehouselaw15.examples, plain: what is said of the examples.
-/
namespace Go.Proofs.YtgmgghbocidibaaGreatDoor
open Go.RowKit

def exS : Bs := [60, 97, 62, 60, 98, 62, 120, 38, 97, 109, 112, 59, 121, 60, 47, 98, 62, 60, 99, 47, 62, 60, 47, 97, 62]
def exS2 : Bs := [60, 97, 62, 120, 60, 98, 47, 62, 60, 47, 97, 62]
def exT : Tree := .node ⟨#[97]⟩ ⟨#[]⟩ [.node ⟨#[98]⟩ ⟨#[120, 38, 121]⟩ [], .node ⟨#[99]⟩ ⟨#[]⟩ []]
def exW : Tree := .node ⟨#[97]⟩ ⟨#[60, 34]⟩ []
theorem ex_parse : parseL exS = .ok exT := by kernel_rfl
theorem ex_parse2 : parseL exS2 = .error (55, 4) := by kernel_rfl
theorem ex_write : wOut exW = (headC ++ [60, 97, 62, 38, 108, 116, 59, 38, 113, 117, 111, 116, 59, 60, 47, 97, 62], 0) := by kernel_rfl
theorem ex_text : textX exT.kids [98] = ([120, 38, 121], true) := by kernel_rfl
theorem ex_find : (exT.kids.filter (namedX [99])).length = 1 := by kernel_rfl
theorem same_refl : ∀ t : Tree, sameX t t = true := by
  apply treeInd
  intro n t ks ih
  have hk : ∀ ks' : List Tree, (∀ k ∈ ks', sameX k k = true) → sameKs ks' ks' = true := by
    intro ks'
    induction ks' with
    | nil => intro _; rfl
    | cons x xs ihx =>
      intro h
      unfold sameKs
      rw [h x (by simp), ihx fun k hk => h k (by simp [hk])]
      rfl
  unfold sameX
  simp [hk ks ih]
theorem ex_ok : okT exT = true := (parse_okT ex_parse).1
end Go.Proofs.YtgmgghbocidibaaGreatDoor

/-
  storehouselaw15.examples: all hold.
-/
namespace Go.Proofs.YtgmgghbocidibaaGreatDoor
open Go.RowKit Go.Lib Go.PlainAid

/-- an element's row is stored in a box of its own -/
theorem elem_box {w : World} {g : Nat} {es : Array Value} (hg : g = w.heap.size) (he : es.size = 3) : ((w.alloc (.cells elemZC 24)).setRow g es).heap[g]? = some (.cells es 24 (0, 0)) ∧ Below w.heap.size w ((w.alloc (.cells elemZC 24)).setRow g es) := by
  subst hg
  rw [setRow_alloc _ _ _ _ _ rfl]
  exact ⟨heap_alloc_new _ _, below_alloc (Below.refl _ _) (Nat.le_refl _) _⟩

set_option maxHeartbeats 8000000 in
set_option maxRecDepth 100000 in
theorem ex_walk {w : World} (hG : GlobX w) : Calls Tryz.prog 7 #[] w fun e w' => e = .returned (.bool true) ∧ Below w.heap.size w w' := by
  have HG := Lib.hid hG
  have HP1 : Hid (Calls Tryz.prog 9 #[.string ⟨exS.toArray⟩] w (ParseOut (.ok exT) w)) := by
    have h := Parse_any ⟨exS.toArray⟩ w hG (by decide)
    rw [show (⟨exS.toArray⟩ : ByteArray).data.toList = exS from rfl, ex_parse] at h
    exact h
  clear hG
  unfold exS at HP1
  go_enter Tryz.func7, Tryz.ntmps7
  go_wp2_with fail
  refine HP1.out.mono ?_
  rintro e W1 ⟨hb1, z, rfl, ho⟩
  obtain ⟨a, c, rfl, hT1⟩ := ho.form
  have B1 := Lib.hid hb1
  have T1 := Lib.hid hT1
  clear hb1 hT1 ho HP1
  go_upto_region 2 with (refine wpList_store_rowN (by rfl) 24 _ _ (by rfl) W1.heap.size (elC exT a c) (by rfl) (by rfl) 24 elemZC (by exact heap_alloc_new _ _) (by kernel_rfl) (by rfl) (by kernel_rfl) (fun W => W.heap[W1.heap.size]? = some (.cells (elC exT a c) 24 (0, 0)) ∧ Below W1.heap.size W1 W) (elem_box rfl rfl) ?_; rintro W2 h2)
  have X2 := Lib.hid h2.1
  have B2 := Lib.hid (B1.out.trans (h2.2.mono B1.out.size))
  have T2 := Lib.hid (T1.out.later h2.2)
  have HLT : Hid (w.heap.size ≤ W1.heap.size) := B1.out.size
  clear h2 T1 B1
  generalize W1.heap.size = g1 at *
  have HP2 : Hid (Calls Tryz.prog 9 #[.string ⟨exS2.toArray⟩] W2 (ParseOut (.error (55, 4)) W2)) := by
    have h := Parse_any ⟨exS2.toArray⟩ W2 (HG.out.later B2.out) (by decide)
    rw [show (⟨exS2.toArray⟩ : ByteArray).data.toList = exS2 from rfl, ex_parse2] at h
    exact h
  unfold exS2 at HP2
  go_wp2_with fail
  refine HP2.out.mono ?_
  rintro e W3 ⟨hb3, F, rfl, hF, hFl⟩
  have B3 := Lib.hid (B2.out.trans (hb3.mono B2.out.size))
  have X3 := Lib.hid ((hb3.block g1 (Array.getElem?_eq_some_iff.1 X2.out).1).trans X2.out)
  have T3 := Lib.hid (T2.out.later hb3)
  have HF3 := Lib.hid hF
  clear hb3 hF hFl T2 X2 B2 HP2
  go_upto_region 3 with (refine wpList_store_rowN (by rfl) 24 _ _ (by rfl) W3.heap.size elemZC (by rfl) (by rfl) 24 elemZC (by exact heap_alloc_new _ _) (by kernel_rfl) (by rfl) (by kernel_rfl) (fun W => Below W3.heap.size W3 W) ((elem_box rfl rfl).2) ?_; rintro W4 h4)
  have B4 := Lib.hid (B3.out.trans (h4.mono B3.out.size))
  have X4 := Lib.hid ((h4.block g1 (Array.getElem?_eq_some_iff.1 X3.out).1).trans X3.out)
  have T4 := Lib.hid (T3.out.later h4)
  have HTL := Lib.hid (told_fault (w := W4) ((h4.block F (Array.getElem?_eq_some_iff.1 HF3.out).1).trans HF3.out) (by decide))
  clear h4 T3 X3 B3 HF3
  go_wp2_with fail
  refine HTL.out.mono ?_
  rintro e W5 ⟨rfl, hb5⟩
  have B5 := Lib.hid (B4.out.trans (hb5.mono B4.out.size))
  have X5 := Lib.hid ((hb5.block g1 (Array.getElem?_eq_some_iff.1 X4.out).1).trans X4.out)
  have T5 := Lib.hid (T4.out.later hb5)
  have TW : Hid (ElemIn W5 exW none 0) := by
    show TreeIn _ _ _ _ _
    unfold exW TreeIn
    exact ⟨rfl, rfl, by decide, by decide, by decide, none, 0, rfl, by unfold KidsIn; trivial⟩
  have HW := Lib.hid (write_prog exW none 0 W5 TW.out (HG.out.later B5.out).c (fun _ => sm_of_short _ (by decide)))
  rw [ex_write] at HW
  clear hb5 T4 X4 B4 HTL
  go_upto_region 5 with (fail)
  refine HW.out.mono ?_
  rintro e W6 ⟨rfl, hb6⟩
  have B6 := Lib.hid (B5.out.trans (hb6.mono B5.out.size))
  have X6 := Lib.hid ((hb6.block g1 (Array.getElem?_eq_some_iff.1 X5.out).1).trans X5.out)
  have T6 := Lib.hid (T5.out.later hb6)
  have HTX := Lib.hid (Text_any exT [98] a c W6 T6.out)
  rw [ex_text] at HTX
  clear hb6 T5 X5 B5 HW TW
  go_upto_region 6 with (refine wpList_load_row (by rfl) 24 _ (by rfl) g1 (by rfl) 24 (elC exT a c) (0, 0) _ (by exact X6.out) Tryz.underlying24 rfl (by kernel_rfl) ?_)
  refine HTX.out.mono ?_
  rintro e W7 ⟨rfl, hb7⟩
  have B7 := Lib.hid (B6.out.trans (hb7.mono B6.out.size))
  have X7 := Lib.hid ((hb7.block g1 (Array.getElem?_eq_some_iff.1 X6.out).1).trans X6.out)
  have T7 := Lib.hid (T6.out.later hb7)
  obtain ⟨-, -, -, -, -, a', c', he, hK⟩ := T7.out.cells
  injection he with e1 _ e3
  subst e1 e3
  obtain ⟨b, off, a2, c2, rfl, hrg, -⟩ := kid_range (i := 0) hK rfl
  have q0 : W7.cell? ⟨g1, 0, none⟩ = some (.string ⟨#[97]⟩) := cell_at X7.out rfl
  have q2 : W7.cell? ⟨g1, 2, none⟩ = some (.slice (some ⟨b, off, none⟩) 2 c) := cell_at X7.out rfl
  have qt : W7.cell? ⟨b, off + 1, none⟩ = some (.string ⟨#[120, 38, 121]⟩) := hrg 1 _ rfl
  clear hb7 T6 X6 B6 HTX hK hrg
  have HFD := Lib.hid (Find_any exT [99] (some ⟨b, off, none⟩) c W7 T7.out)
  go_wp2_with (refine wpList_wanted (by go_simp) ?_; refine wp_load_row 24 _ (by rfl) g1 (by rfl) 24 (elC exT (some ⟨b, off, none⟩) c) (0, 0) _ (by exact X7.out) Tryz.underlying24 rfl (by kernel_rfl) ?_)
  refine HFD.out.mono ?_
  rintro e W8 ⟨v8, rfl, ho8, hb8⟩
  have B8 := Lib.hid (B7.out.trans (hb8.mono B7.out.size))
  have X8 := Lib.hid ((hb8.block g1 (Array.getElem?_eq_some_iff.1 X7.out).1).trans X7.out)
  have T8 := Lib.hid (T7.out.later hb8)
  have hv8 : ∃ p q, v8 = .slice p 1 q := by
    obtain ⟨p, q, hv⟩ := ho8.form
    rw [ex_find] at hv
    exact ⟨p, q, hv⟩
  obtain ⟨p8, q8, rfl⟩ := hv8
  have HSA := Lib.hid (Same_prog exT exT (some ⟨b, off, none⟩) (some ⟨b, off, none⟩) c c W8 T8.out T8.out (HG.out.later B8.out).c)
  rw [ex_ok, same_refl] at HSA
  clear ho8 hb8 T7 X7 B7 HFD q0 q2 qt
  go_wp2_with (refine wpList_wanted (by go_simp) ?_; refine wp_load_row 24 _ (by rfl) g1 (by rfl) 24 (elC exT (some ⟨b, off, none⟩) c) (0, 0) _ (by exact X8.out) Tryz.underlying24 rfl (by kernel_rfl) ?_)
  refine HSA.out.mono ?_
  rintro e W9 ⟨rfl, hb9⟩
  have B9 := Lib.hid (B8.out.trans (hb9.mono B8.out.size))
  clear hb9
  go_wp2_with fail
  go_ret
  exact ⟨rfl, B9.out⟩
end Go.Proofs.YtgmgghbocidibaaGreatDoor
