/-
  examples: the walk.
-/
import Derived.Test.YtajmkkjlhmeolaaGreatDoorMtPartP
import Derived.Test.YtajmkkjlhmeolaaGreatDoorMtReadKey
import Derived.Test.YtajmkkjlhmeolaaGreatDoorMtPlaceEq
namespace Go.Proofs.YtajmkkjlhmeolaaGreatDoor
open Go.RowKit Go.Lib

theorem num_255 : numText 255 = [48, 48, 48, 48, 48, 48, 48, 48, 48, 48, 48, 48, 48, 48, 102, 102] := by
  unfold numText
  rw [if_pos (by omega)]
  have h : hexL (255 : Int).toNat = [102, 102] := by
    show hexL 255 = _
    unfold hexL
    rw [dif_neg (by omega), hexL_small (by omega)]
    rfl
  rw [h]
  rfl
theorem num_1 : numText 1 = [48, 48, 48, 48, 48, 48, 48, 48, 48, 48, 48, 48, 48, 48, 48, 49] := by
  unfold numText
  rw [if_pos (by omega)]
  have h : hexL (1 : Int).toNat = [49] := hexL_small (by omega)
  rw [h]
  rfl
def exKey : List UInt8 := [118, 47, 97, 98, 99, 47, 107, 47, 108, 47, 48, 48, 48, 48, 48, 48, 48, 48, 48, 48, 48, 48, 48, 48, 48, 49]
def exNoKey : List UInt8 := [118, 47, 97, 98, 99, 47, 48, 48, 48, 48, 48, 48, 48, 48, 48, 48, 48, 48, 48, 48, 48, 49]
theorem ex_key : placeOf exKey = some ⟨118, [97, 98, 99], [107, 47, 108], 1, 0⟩ := by
  have hc : candOf 118 (cut1 exKey 47).2.1 = some ⟨118, [97, 98, 99], [107, 47, 108], 1, 0⟩ := by rfl
  have hk : placeKeyL ⟨118, [97, 98, 99], [107, 47, 108], 1, 0⟩ = exKey := by
    show versionKeyL [97, 98, 99] [107, 47, 108] 1 = exKey
    unfold versionKeyL
    rw [if_pos ⟨by rfl, by simp, by simp⟩]
    unfold keyL
    rw [if_pos (by omega), num_1]
    rfl
  have h : placeOf exKey = match candOf 118 (cut1 exKey 47).2.1 with
      | some p => if placeKeyL p ≠ [] ∧ placeKeyL p = exKey then some p else none
      | none => none := rfl
  rw [h, hc]
  simp only
  rw [if_pos ⟨by rw [hk]; simp [exKey], hk⟩]
theorem ex_noKey : placeOf exNoKey = none := by
  have hc : candOf 118 (cut1 exNoKey 47).2.1 = some ⟨118, [97, 98, 99], [], 1, 0⟩ := by rfl
  have hk : placeKeyL ⟨118, [97, 98, 99], [], 1, 0⟩ = [] := by
    show versionKeyL [97, 98, 99] [] 1 = []
    unfold versionKeyL
    rw [if_neg (by simp)]
  have h : placeOf exNoKey = match candOf 118 (cut1 exNoKey 47).2.1 with
      | some p => if placeKeyL p ≠ [] ∧ placeKeyL p = exNoKey then some p else none
      | none => none := rfl
  rw [h, hc]
  simp only
  rw [if_neg (fun h => h.1 hk)]

/-- an operation that stands behind a guard, and runs -/
theorem wpList_wanted {P : Program} {ops : Array Oper} {rest : List Oper} {o : Oper} {a : Act} {w : World} {Q : Exit → Act → World → Prop} (hw : Region.wanted o (yielded ops a.tmps) = true) (h : o.wp P a w (wpList P ops Q rest) Q) :
    wpList P ops Q (o :: rest) a w := by
  unfold wpList
  rw [if_pos hw]
  exact .inl h

def exCells : Array Value := #[.int .u8 118, .string ⟨#[97, 98, 99]⟩, .string ⟨#[107, 47, 108]⟩, .int .i64 1, .int .i64 0]

set_option maxHeartbeats 4000000 in
set_option maxRecDepth 100000 in
theorem ex_walk (w : World) (hG : GlobK w) : Calls Tryz.prog 9 #[] w fun e w' => e = .returned (.bool true) ∧ Below w.heap.size w w' := by
  have HG : Hid (∀ W, Below w.heap.size w W → GlobK W) := fun W hW => hG.later hW
  have H1 : Hid (∀ W, Glob W → Calls Tryz.prog 41 #[.agg #[.int .i64 1, .int .i64 3, .int .i64 0, .string ⟨#[120]⟩, .int .i64 9]] W fun e w' => e = .returned (.tuple #[.string ⟨#[49, 58, 80, 44, 49, 58, 49, 44, 49, 58, 51, 44, 49, 58, 48, 44, 49, 58, 120, 44, 49, 58, 57, 44]⟩, .int .i64 0]) ∧ Below W.heap.size W w') := fun W hW => by
    have := partText_any exPart W hW ⟨by unfold IntOK; decide, by unfold IntOK; decide, by unfold IntOK; decide, by unfold IntOK; decide⟩ (by rw [ex_partL]; decide)
    rw [readPart_text ex_right, ex_partL] at this
    exact this
  have H2 : Hid (∀ W, Glob W → Calls Tryz.prog 29 #[.string ⟨#[49, 58, 80, 44, 50, 58, 48, 49, 44, 49, 58, 51, 44, 49, 58, 48, 44, 49, 58, 120, 44, 49, 58, 57, 44]⟩] W fun e w' => e = .returned (.tuple #[.agg partZero, .int .i64 59]) ∧ Below W.heap.size W w') := fun W hW => by
    have := readPart_any exBad W hW (by decide)
    rw [ex_bad] at this
    exact this
  have H3 : Hid (∀ W, GlobK W → Calls Tryz.prog 11 #[.string ⟨#[118, 47, 97, 98, 99, 47, 107, 47, 108, 47, 48, 48, 48, 48, 48, 48, 48, 48, 48, 48, 48, 48, 48, 48, 48, 49]⟩] W fun e w' => e = .returned (.tuple #[.agg exCells, .bool true]) ∧ Below W.heap.size W w') := fun W hW => by
    have := readKey_any exKey (by decide) W hW
    rw [ex_key] at this
    exact this
  have H4 : Hid (∀ W, GlobK W → Calls Tryz.prog 11 #[.string ⟨#[118, 47, 97, 98, 99, 47, 48, 48, 48, 48, 48, 48, 48, 48, 48, 48, 48, 48, 48, 48, 48, 49]⟩] W fun e w' => e = .returned (.tuple #[.agg placeZero, .bool false]) ∧ Below W.heap.size W w') := fun W hW => by
    have := readKey_any exNoKey (by decide) W hW
    rw [ex_noKey] at this
    exact this
  have H5 : Hid (∀ W, Glob W → Calls Tryz.prog 15 #[.int .i64 255] W fun e w' => e = .returned (.string ⟨#[48, 48, 48, 48, 48, 48, 48, 48, 48, 48, 48, 48, 48, 48, 102, 102]⟩) ∧ Below W.heap.size W w') := fun W hW => by
    have := number_any 255 (by unfold IntOK; omega) W hW.tz
    rw [num_255] at this
    exact this
  have H6 := Lib.hid seqKey_any
  clear hG
  go_enter Tryz.func9, Tryz.ntmps9
  go_wp2_with fail
  refine Calls.mono (H1.out _ (HG.out _ (Below.refl _ _)).g) ?_
  rintro e w1 ⟨rfl, hb1⟩
  have B1 := Lib.hid hb1
  clear hb1
  go_wp2_with fail
  refine Calls.mono (H2.out _ (HG.out _ B1.out).g) ?_
  rintro e w2 ⟨rfl, hb2⟩
  have B2 := Lib.hid (B1.out.trans (hb2.mono B1.out.size))
  clear hb2
  go_wp2_with (refine wpList_store_row (by rfl) 56 _ _ (by rfl) _ partZero (by rfl) (by rfl) 56 _ (by exact heap_alloc_new _ _) (by kernel_rfl) (by kernel_rfl) (by kernel_rfl) ?_)
  have BX := Lib.hid (below_one_row _ _ _ _ _ (B2.out.alloc B2.out.size (.cells partZero 56)) B2.out.size : Below w.heap.size w ((w2.alloc (.cells partZero 56)).setRow w2.heap.size partZero))
  refine Calls.mono (H3.out _ (HG.out _ BX.out)) ?_
  rintro e w3 ⟨rfl, hb3⟩
  have B3 := Lib.hid (BX.out.trans (hb3.mono BX.out.size))
  clear hb3 BX
  go_wp2_with (refine wpList_store_row (by rfl) 25 _ _ (by rfl) _ exCells (by rfl) (by rfl) 25 _ (by exact heap_alloc_new _ _) (by kernel_rfl) (by kernel_rfl) (by kernel_rfl) ?_)
  have BX := Lib.hid (below_one_row _ _ _ _ _ (B3.out.alloc B3.out.size (.cells placeZero 25)) B3.out.size : Below w.heap.size w ((w3.alloc (.cells placeZero 25)).setRow w3.heap.size exCells))
  have X3 : Hid (((w3.alloc (.cells placeZero 25)).setRow w3.heap.size exCells).heap[w3.heap.size]? = some (.cells exCells 25 (0, 0))) := setRow_heap _ _ _ _ _ _ (heap_alloc_new _ _)
  refine Calls.mono (H4.out _ (HG.out _ BX.out)) ?_
  rintro e w4 ⟨rfl, hb4⟩
  have B4 := Lib.hid (BX.out.trans (hb4.mono BX.out.size))
  have X4 := Lib.hid ((hb4.block _ (by simp)).trans X3.out)
  have L4 : Hid (w3.heap.size < w4.heap.size) := (Array.getElem?_eq_some_iff.1 X4.out).1
  clear hb4 BX X3
  generalize w3.heap.size = g3 at X4 L4 ⊢
  clear B3 B2 B1
  have X5 : Hid (((w4.alloc (.cells placeZero 25)).setRow w4.heap.size placeZero).heap[g3]? = some (.cells exCells 25 (0, 0))) := (setRow_other _ _ _ _ (by have := L4.out; omega)).trans (((Below.refl w.heap.size w4 |> fun _ => below_alloc (Below.refl _ w4) (Nat.le_refl _) (.cells placeZero 25)).block _ L4.out).trans X4.out)
  have BX := Lib.hid (below_one_row _ _ _ _ _ (B4.out.alloc B4.out.size (.cells placeZero 25)) B4.out.size : Below w.heap.size w ((w4.alloc (.cells placeZero 25)).setRow w4.heap.size placeZero))
  have hEQ : (binOp .eql 25 (.agg #[.int .u8 118, .string ⟨#[97, 98, 99]⟩, .string ⟨#[107, 47, 108]⟩, .int .i64 1, .int .i64 0]) (.agg #[.int .u8 118, .string ⟨#[97, 98, 99]⟩, .string ⟨#[107, 47, 108]⟩, .int .i64 1, .int .i64 0])).run Tryz.prog ((w4.alloc (.cells placeZero 25)).setRow w4.heap.size placeZero) = .ok (.bool true) ((w4.alloc (.cells placeZero 25)).setRow w4.heap.size placeZero) := by
    have := eql_place ⟨118, [97, 98, 99], [107, 47, 108], 1, 0⟩ ⟨118, [97, 98, 99], [107, 47, 108], 1, 0⟩ ((w4.alloc (.cells placeZero 25)).setRow w4.heap.size placeZero)
    rw [decide_eq_true rfl] at this
    exact this
  unfold exCells at *
  go_wp2_with (first
    | (refine wpList_store_row (by rfl) 25 _ _ (by rfl) _ placeZero (by rfl) (by rfl) 25 _ (by exact heap_alloc_new _ _) (by kernel_rfl) (by kernel_rfl) (by kernel_rfl) ?_)
    | (refine wpList_wanted (by kernel_rfl) (wp_load_row 25 _ (by rfl) g3 (by rfl) 25 _ (0, 0) _ (by exact X5.out) Tryz.underlying25 rfl (by kernel_rfl) ?_)))
  refine Calls.mono (H5.out _ (HG.out _ BX.out).g) ?_
  rintro e w5 ⟨rfl, hb5⟩
  have B5 := Lib.hid (BX.out.trans (hb5.mono BX.out.size))
  clear hb5 X5 BX X4 L4
  go_wp2_with fail
  refine Calls.mono (H6.out _) ?_
  rintro e w6 ⟨rfl, hb6⟩
  have B6 := Lib.hid (B5.out.trans (hb6.mono B5.out.size))
  clear hb6
  go_wp2
  go_ret
  exact ⟨rfl, B6.out⟩

end Go.Proofs.YtajmkkjlhmeolaaGreatDoor
