/-
  SEVERAL SMALL TEXTS IN ONE.
-/
import Derived.Test.YtajmkkjlhmeolaaGreatDoorMtPartText
import Derived.Test.YtajmkkjlhmeolaaGreatDoorMtReadKey
import Derived.Test.YtajmkkjlhmeolaaGreatDoorSm11
/-
  A part's record: what is read is what was written (plain).
-/
namespace Go.Proofs.YtajmkkjlhmeolaaGreatDoor
open Go.RowKit Go.Lib

/-- a part as the chapter says -/
structure PartRight (p : PartV) : Prop where
  num : 1 ≤ p.num ∧ p.num ≤ 20
  size : 0 ≤ p.size ∧ p.size ≤ 9007199254740991
  when_ : 0 ≤ p.when_ ∧ p.when_ ≤ 253402300799
  etag : p.etag.length ≤ 100
  blob : 1 ≤ p.blob ∧ p.blob ≤ 9007199254740991

theorem partL_eq (p : PartV) : partL p = fieldL [80] ++ (numL p.num ++ (numL p.size ++ (numL p.when_ ++ (fieldL p.etag ++ numL p.blob)))) := by simp [partL]

theorem readPart_text {p : PartV} (h : PartRight p) : readPartL (partL p) = some p := by
  obtain ⟨n, z, t, e, b⟩ := p
  obtain ⟨h1, h2, h3, h4, h5⟩ := h
  simp only at h1 h2 h3 h4 h5
  have e1 : rp1 (partL ⟨n, z, t, e, b⟩) = ⟨numL n ++ (numL z ++ (numL t ++ (fieldL e ++ numL b))), false⟩ := ofF_field rfl (by simp) (partL_eq _)
  have e2 : rp2 (partL ⟨n, z, t, e, b⟩) = (n, ⟨numL z ++ (numL t ++ (fieldL e ++ numL b)), false⟩) := by
    unfold rp2; rw [e1]; exact numberF_field (by omega) (by omega) h1 rfl
  have e3 : rp3 (partL ⟨n, z, t, e, b⟩) = (z, ⟨numL t ++ (fieldL e ++ numL b), false⟩) := by
    unfold rp3; rw [e2]; exact numberF_field (by omega) (by omega) h2 rfl
  have e4 : rp4 (partL ⟨n, z, t, e, b⟩) = (t, ⟨fieldL e ++ numL b, false⟩) := by
    unfold rp4; rw [e3]; exact numberF_field (by omega) (by omega) h3 rfl
  have e5 : rp5 (partL ⟨n, z, t, e, b⟩) = (e, ⟨numL b, false⟩) := by
    unfold rp5; rw [e4]; exact shortF_field (by omega) (by omega) rfl
  have e6 : rp6 (partL ⟨n, z, t, e, b⟩) = (b, ⟨[], false⟩) := by
    unfold rp6; rw [e5]; exact numberF_field (by omega) (by omega) h5 (by simp)
  unfold readPartL
  rw [e2, e3, e4, e5, e6]
  rfl

theorem doneF_zero {f : Fs} (h : doneF f = 0) : f.bad = false ∧ f.rest = [] := by
  unfold doneF at h
  split at h
  · cases h
  · rename_i hh
    simp only [Bool.or_eq_true, Bool.not_eq_eq_eq_not, Bool.not_true, not_or, Bool.not_eq_false, Bool.not_eq_true] at hh
    exact ⟨hh.1, by simpa using hh.2⟩

theorem readPart_some {s : List UInt8} {p : PartV} (h : readPartL s = some p) : PartRight p ∧ s = partL p := by
  obtain ⟨f1, h1⟩ : ∃ f, rp1 s = f := ⟨_, rfl⟩
  obtain ⟨⟨n2, f2⟩, h2⟩ : ∃ f, rp2 s = f := ⟨_, rfl⟩
  obtain ⟨⟨n3, f3⟩, h3⟩ : ∃ f, rp3 s = f := ⟨_, rfl⟩
  obtain ⟨⟨n4, f4⟩, h4⟩ : ∃ f, rp4 s = f := ⟨_, rfl⟩
  obtain ⟨⟨n5, f5⟩, h5⟩ : ∃ f, rp5 s = f := ⟨_, rfl⟩
  obtain ⟨⟨n6, f6⟩, h6⟩ : ∃ f, rp6 s = f := ⟨_, rfl⟩
  unfold readPartL at h
  rw [h2, h3, h4, h5, h6] at h
  simp only at h
  unfold rp6 at h6; rw [h5] at h6
  unfold rp5 at h5; rw [h4] at h5
  unfold rp4 at h4; rw [h3] at h4
  unfold rp3 at h3; rw [h2] at h3
  unfold rp2 at h2; rw [h1] at h2
  unfold rp1 at h1
  split at h
  · rename_i hd
    obtain ⟨hb, hr⟩ := doneF_zero hd
    obtain rfl := Option.some.inj h
    obtain ⟨b5, r6, q6⟩ := numberF_good h6 hb
    obtain ⟨b4, r5, q5⟩ := shortF_good h5 b5
    obtain ⟨b3, r4, q4⟩ := numberF_good h4 b4
    obtain ⟨b2, r3, q3⟩ := numberF_good h3 b3
    obtain ⟨b1, r2, q2⟩ := numberF_good h2 b2
    obtain ⟨b0, q1⟩ := ofF_good (f := ⟨s, false⟩) (k := [80]) (by simp) (by rw [h1]; exact b1)
    rw [h1] at q1
    refine ⟨⟨r2, r3, r4, by simp only; omega, r6⟩, ?_⟩
    rw [partL_eq]
    simp only at q1 ⊢
    rw [q1, q2, q3, q4, q5, q6, hr, List.append_nil]
  · cases h

theorem itoa1 (n : Nat) (h : n < 10) : itoa (n : Int) = [(48 + n).toUInt8] := by
  have : n = 0 ∨ n = 1 ∨ n = 2 ∨ n = 3 ∨ n = 4 ∨ n = 5 ∨ n = 6 ∨ n = 7 ∨ n = 8 ∨ n = 9 := by omega
  rcases this with rfl | rfl | rfl | rfl | rfl | rfl | rfl | rfl | rfl | rfl <;> simp [Lib.itoa, Lib.decDigits]

/-- the chapter's own example -/
def exPart : PartV := ⟨1, 3, 0, [120], 9⟩
def exText : List UInt8 := [49, 58, 80, 44, 49, 58, 49, 44, 49, 58, 51, 44, 49, 58, 48, 44, 49, 58, 120, 44, 49, 58, 57, 44]
theorem ex_partL : partL exPart = exText := by
  have i0 := itoa1 0 (by omega)
  have i1 := itoa1 1 (by omega)
  have i3 := itoa1 3 (by omega)
  have i9 := itoa1 9 (by omega)
  simp only [Int.natCast_zero, Int.natCast_one] at i0 i1
  rw [partL_eq]
  unfold exPart numL fieldL
  simp only [List.length_cons, List.length_nil, Nat.zero_add]
  have c3 : ((3 : Nat) : Int) = 3 := rfl
  have c9 : ((9 : Nat) : Int) = 9 := rfl
  rw [c3] at i3
  rw [c9] at i9
  simp only [i0, i1, i3, i9, List.length_cons, List.length_nil, Nat.zero_add, Int.natCast_one]
  rfl
theorem ex_right : PartRight exPart := ⟨by decide, by decide, by decide, by decide, by decide⟩
def exBad : List UInt8 := [49, 58, 80, 44, 50, 58, 48, 49, 44, 49, 58, 51, 44, 49, 58, 48, 44, 49, 58, 120, 44, 49, 58, 57, 44]
theorem ex_bad : readPartL exBad = none := by
  cases h : readPartL exBad with
  | none => rfl
  | some p =>
    exfalso
    obtain ⟨hr, hs⟩ := readPart_some h
    -- what is read begins with the field 'P' and then a numeral that has no nought ahead
    rw [partL_eq] at hs
    have i1 := itoa1 1 (by omega)
    simp only [Int.natCast_one] at i1
    have hf : fieldL [80] = [49, 58, 80, 44] := by
      unfold fieldL
      simp only [List.length_cons, List.length_nil, Nat.zero_add, Int.natCast_one, i1]
      rfl
    rw [hf] at hs
    unfold exBad at hs
    simp only [List.cons_append, List.nil_append, List.cons.injEq, true_and] at hs
    have i2 := itoa1 2 (by omega)
    have hg : fieldL [48, 49] = [50, 58, 48, 49, 44] := by
      unfold fieldL
      show itoa ((2 : Nat) : Int) ++ _ = _
      rw [i2]
      rfl
    have t1 := takeText_field [48, 49] [49, 58, 51, 44, 49, 58, 48, 44, 49, 58, 120, 44, 49, 58, 57, 44] (by simp)
    rw [hg] at t1
    simp only [List.cons_append, List.nil_append] at t1
    rw [hs] at t1
    unfold numL at t1
    obtain ⟨m, hm⟩ := Int.eq_ofNat_of_zero_le (show 0 ≤ p.num by have := hr.num.1; omega)
    have hm20 := hr.num
    rw [hm] at t1 hm20
    rw [takeText_field _ _ (itoa_len (by omega) (by omega))] at t1
    simp only [Option.some.injEq, Prod.mk.injEq] at t1
    have a1 := atoi_itoa m (by omega)
    rw [t1.1] at a1
    have a2 : Lib.atoiAll [48, 49] = .ok 1 := rfl
    rw [a2] at a1
    have hm1 : (m : Int) = 1 := by injection a1 with h; exact h.symm
    have := t1.1
    rw [hm1, i1] at this
    exact absurd this (by decide)

end Go.Proofs.YtajmkkjlhmeolaaGreatDoor

/-
  examples: the walk.
-/
namespace Go.Proofs.YtajmkkjlhmeolaaGreatDoor
open Go.RowKit Go.Lib

theorem num_255 : numText 255 = [48, 48, 48, 48, 48, 48, 48, 48, 48, 48, 48, 48, 48, 48, 102, 102] := by
  unfold numText
  rw [if_pos (by omega)]
  have h : hexL (255 : Int).toNat = [102, 102] := by
    show hexL 255 = _
    unfold hexL
    rw [dif_neg (by omega), hexL_small (by omega)]
    rfl
  rw [h]
  rfl
theorem num_1 : numText 1 = [48, 48, 48, 48, 48, 48, 48, 48, 48, 48, 48, 48, 48, 48, 48, 49] := by
  unfold numText
  rw [if_pos (by omega)]
  have h : hexL (1 : Int).toNat = [49] := hexL_small (by omega)
  rw [h]
  rfl
def exKey : List UInt8 := [118, 47, 97, 98, 99, 47, 107, 47, 108, 47, 48, 48, 48, 48, 48, 48, 48, 48, 48, 48, 48, 48, 48, 48, 48, 49]
def exNoKey : List UInt8 := [118, 47, 97, 98, 99, 47, 48, 48, 48, 48, 48, 48, 48, 48, 48, 48, 48, 48, 48, 48, 48, 49]
theorem ex_key : placeOf exKey = some ⟨118, [97, 98, 99], [107, 47, 108], 1, 0⟩ := by
  have hc : candOf 118 (cut1 exKey 47).2.1 = some ⟨118, [97, 98, 99], [107, 47, 108], 1, 0⟩ := by rfl
  have hk : placeKeyL ⟨118, [97, 98, 99], [107, 47, 108], 1, 0⟩ = exKey := by
    show versionKeyL [97, 98, 99] [107, 47, 108] 1 = exKey
    unfold versionKeyL
    rw [if_pos ⟨by rfl, by simp, by simp⟩]
    unfold keyL
    rw [if_pos (by omega), num_1]
    rfl
  have h : placeOf exKey = match candOf 118 (cut1 exKey 47).2.1 with
      | some p => if placeKeyL p ≠ [] ∧ placeKeyL p = exKey then some p else none
      | none => none := rfl
  rw [h, hc]
  simp only
  rw [if_pos ⟨by rw [hk]; simp [exKey], hk⟩]
theorem ex_noKey : placeOf exNoKey = none := by
  have hc : candOf 118 (cut1 exNoKey 47).2.1 = some ⟨118, [97, 98, 99], [], 1, 0⟩ := by rfl
  have hk : placeKeyL ⟨118, [97, 98, 99], [], 1, 0⟩ = [] := by
    show versionKeyL [97, 98, 99] [] 1 = []
    unfold versionKeyL
    rw [if_neg (by simp)]
  have h : placeOf exNoKey = match candOf 118 (cut1 exNoKey 47).2.1 with
      | some p => if placeKeyL p ≠ [] ∧ placeKeyL p = exNoKey then some p else none
      | none => none := rfl
  rw [h, hc]
  simp only
  rw [if_neg (fun h => h.1 hk)]

/-- an operation that stands behind a guard, and runs -/
theorem wpList_wanted {P : Program} {ops : Array Oper} {rest : List Oper} {o : Oper} {a : Act} {w : World} {Q : Exit → Act → World → Prop} (hw : Region.wanted o (yielded ops a.tmps) = true) (h : o.wp P a w (wpList P ops Q rest) Q) :
    wpList P ops Q (o :: rest) a w := by
  unfold wpList
  rw [if_pos hw]
  exact .inl h

def exCells : Array Value := #[.int .u8 118, .string ⟨#[97, 98, 99]⟩, .string ⟨#[107, 47, 108]⟩, .int .i64 1, .int .i64 0]

set_option maxHeartbeats 4000000 in
set_option maxRecDepth 100000 in
theorem ex_walk (w : World) (hG : GlobK w) : Calls Tryz.prog 9 #[] w fun e w' => e = .returned (.bool true) ∧ Below w.heap.size w w' := by
  have HG : Hid (∀ W, Below w.heap.size w W → GlobK W) := fun W hW => hG.later hW
  have H1 : Hid (∀ W, Glob W → Calls Tryz.prog 41 #[.agg #[.int .i64 1, .int .i64 3, .int .i64 0, .string ⟨#[120]⟩, .int .i64 9]] W fun e w' => e = .returned (.tuple #[.string ⟨#[49, 58, 80, 44, 49, 58, 49, 44, 49, 58, 51, 44, 49, 58, 48, 44, 49, 58, 120, 44, 49, 58, 57, 44]⟩, .int .i64 0]) ∧ Below W.heap.size W w') := fun W hW => by
    have := partText_any exPart W hW ⟨by unfold IntOK; decide, by unfold IntOK; decide, by unfold IntOK; decide, by unfold IntOK; decide⟩ (by rw [ex_partL]; decide)
    rw [readPart_text ex_right, ex_partL] at this
    exact this
  have H2 : Hid (∀ W, Glob W → Calls Tryz.prog 29 #[.string ⟨#[49, 58, 80, 44, 50, 58, 48, 49, 44, 49, 58, 51, 44, 49, 58, 48, 44, 49, 58, 120, 44, 49, 58, 57, 44]⟩] W fun e w' => e = .returned (.tuple #[.agg partZero, .int .i64 59]) ∧ Below W.heap.size W w') := fun W hW => by
    have := readPart_any exBad W hW (by decide)
    rw [ex_bad] at this
    exact this
  have H3 : Hid (∀ W, GlobK W → Calls Tryz.prog 11 #[.string ⟨#[118, 47, 97, 98, 99, 47, 107, 47, 108, 47, 48, 48, 48, 48, 48, 48, 48, 48, 48, 48, 48, 48, 48, 48, 48, 49]⟩] W fun e w' => e = .returned (.tuple #[.agg exCells, .bool true]) ∧ Below W.heap.size W w') := fun W hW => by
    have := readKey_any exKey (by decide) W hW
    rw [ex_key] at this
    exact this
  have H4 : Hid (∀ W, GlobK W → Calls Tryz.prog 11 #[.string ⟨#[118, 47, 97, 98, 99, 47, 48, 48, 48, 48, 48, 48, 48, 48, 48, 48, 48, 48, 48, 48, 48, 49]⟩] W fun e w' => e = .returned (.tuple #[.agg placeZero, .bool false]) ∧ Below W.heap.size W w') := fun W hW => by
    have := readKey_any exNoKey (by decide) W hW
    rw [ex_noKey] at this
    exact this
  have H5 : Hid (∀ W, Glob W → Calls Tryz.prog 15 #[.int .i64 255] W fun e w' => e = .returned (.string ⟨#[48, 48, 48, 48, 48, 48, 48, 48, 48, 48, 48, 48, 48, 48, 102, 102]⟩) ∧ Below W.heap.size W w') := fun W hW => by
    have := number_any 255 (by unfold IntOK; omega) W hW.tz
    rw [num_255] at this
    exact this
  have H6 := Lib.hid seqKey_any
  clear hG
  go_enter Tryz.func9, Tryz.ntmps9
  go_wp2_with fail
  refine Calls.mono (H1.out _ (HG.out _ (Below.refl _ _)).g) ?_
  rintro e w1 ⟨rfl, hb1⟩
  have B1 := Lib.hid hb1
  clear hb1
  go_wp2_with fail
  refine Calls.mono (H2.out _ (HG.out _ B1.out).g) ?_
  rintro e w2 ⟨rfl, hb2⟩
  have B2 := Lib.hid (B1.out.trans (hb2.mono B1.out.size))
  clear hb2
  go_wp2_with (refine wpList_store_row (by rfl) 56 _ _ (by rfl) _ partZero (by rfl) (by rfl) 56 _ (by exact heap_alloc_new _ _) (by kernel_rfl) (by kernel_rfl) (by kernel_rfl) ?_)
  have BX := Lib.hid (below_one_row _ _ _ _ _ (B2.out.alloc B2.out.size (.cells partZero 56)) B2.out.size : Below w.heap.size w ((w2.alloc (.cells partZero 56)).setRow w2.heap.size partZero))
  refine Calls.mono (H3.out _ (HG.out _ BX.out)) ?_
  rintro e w3 ⟨rfl, hb3⟩
  have B3 := Lib.hid (BX.out.trans (hb3.mono BX.out.size))
  clear hb3 BX
  go_wp2_with (refine wpList_store_row (by rfl) 25 _ _ (by rfl) _ exCells (by rfl) (by rfl) 25 _ (by exact heap_alloc_new _ _) (by kernel_rfl) (by kernel_rfl) (by kernel_rfl) ?_)
  have BX := Lib.hid (below_one_row _ _ _ _ _ (B3.out.alloc B3.out.size (.cells placeZero 25)) B3.out.size : Below w.heap.size w ((w3.alloc (.cells placeZero 25)).setRow w3.heap.size exCells))
  have X3 : Hid (((w3.alloc (.cells placeZero 25)).setRow w3.heap.size exCells).heap[w3.heap.size]? = some (.cells exCells 25 (0, 0))) := setRow_heap _ _ _ _ _ _ (heap_alloc_new _ _)
  refine Calls.mono (H4.out _ (HG.out _ BX.out)) ?_
  rintro e w4 ⟨rfl, hb4⟩
  have B4 := Lib.hid (BX.out.trans (hb4.mono BX.out.size))
  have X4 := Lib.hid ((hb4.block _ (by simp)).trans X3.out)
  have L4 : Hid (w3.heap.size < w4.heap.size) := (Array.getElem?_eq_some_iff.1 X4.out).1
  clear hb4 BX X3
  generalize w3.heap.size = g3 at X4 L4 ⊢
  clear B3 B2 B1
  have X5 : Hid (((w4.alloc (.cells placeZero 25)).setRow w4.heap.size placeZero).heap[g3]? = some (.cells exCells 25 (0, 0))) := (setRow_other _ _ _ _ (by have := L4.out; omega)).trans (((Below.refl w.heap.size w4 |> fun _ => below_alloc (Below.refl _ w4) (Nat.le_refl _) (.cells placeZero 25)).block _ L4.out).trans X4.out)
  have BX := Lib.hid (below_one_row _ _ _ _ _ (B4.out.alloc B4.out.size (.cells placeZero 25)) B4.out.size : Below w.heap.size w ((w4.alloc (.cells placeZero 25)).setRow w4.heap.size placeZero))
  have hEQ : (binOp .eql 25 (.agg #[.int .u8 118, .string ⟨#[97, 98, 99]⟩, .string ⟨#[107, 47, 108]⟩, .int .i64 1, .int .i64 0]) (.agg #[.int .u8 118, .string ⟨#[97, 98, 99]⟩, .string ⟨#[107, 47, 108]⟩, .int .i64 1, .int .i64 0])).run Tryz.prog ((w4.alloc (.cells placeZero 25)).setRow w4.heap.size placeZero) = .ok (.bool true) ((w4.alloc (.cells placeZero 25)).setRow w4.heap.size placeZero) := by
    have := eql_place ⟨118, [97, 98, 99], [107, 47, 108], 1, 0⟩ ⟨118, [97, 98, 99], [107, 47, 108], 1, 0⟩ ((w4.alloc (.cells placeZero 25)).setRow w4.heap.size placeZero)
    rw [decide_eq_true rfl] at this
    exact this
  unfold exCells at *
  go_wp2_with (first
    | (refine wpList_store_row (by rfl) 25 _ _ (by rfl) _ placeZero (by rfl) (by rfl) 25 _ (by exact heap_alloc_new _ _) (by kernel_rfl) (by kernel_rfl) (by kernel_rfl) ?_)
    | (refine wpList_wanted (by kernel_rfl) (wp_load_row 25 _ (by rfl) g3 (by rfl) 25 _ (0, 0) _ (by exact X5.out) Tryz.underlying25 rfl (by kernel_rfl) ?_)))
  refine Calls.mono (H5.out _ (HG.out _ BX.out).g) ?_
  rintro e w5 ⟨rfl, hb5⟩
  have B5 := Lib.hid (BX.out.trans (hb5.mono BX.out.size))
  clear hb5 X5 BX X4 L4
  go_wp2_with fail
  refine Calls.mono (H6.out _) ?_
  rintro e w6 ⟨rfl, hb6⟩
  have B6 := Lib.hid (B5.out.trans (hb6.mono B5.out.size))
  clear hb6
  go_wp2
  go_ret
  exact ⟨rfl, B6.out⟩

end Go.Proofs.YtajmkkjlhmeolaaGreatDoor
