/-
  MetaReads: the law (the walk is printed by wip/gen/mflaw.py).
-/
import Derived.Test.YtajmkkjlhmeolaaGreatDoorMtApart
import Derived.Test.YtajmkkjlhmeolaaGreatDoorMfReadVerR
import Derived.Test.YtajmkkjlhmeolaaGreatDoorMfReadBkR
import Derived.Test.YtajmkkjlhmeolaaGreatDoorSm44
namespace Go.Proofs.YtajmkkjlhmeolaaGreatDoor
open Go.RowKit Go.Lib

set_option maxHeartbeats 8000000 in
set_option maxRecDepth 100000 in
theorem reads_walk (s : List UInt8) (hs : s.length ≤ 4000000000000) (w : World) (hG : GlobK w) :
    Calls Tryz.prog 6 #[.string ⟨s.toArray⟩] w fun e w' => e = .returned (.bool true) ∧ Below w.heap.size w w' := by
  have HG : Hid (∀ W, Below w.heap.size w W → GlobK W) := fun W hW => hG.later hW
  have HE := Lib.hid (ex_walk w hG)
  clear hG
  have hs' : s.length ≤ 140737488351232 := by omega
  obtain ⟨⟨b1, b2, b3, b4, b5, bl⟩, hbv⟩ : ∃ p, (readBkL s).getD bkZ = p := ⟨_, rfl⟩
  obtain ⟨ob, hob⟩ : ∃ x, (readBkL s).isSome = x := ⟨_, rfl⟩
  obtain ⟨⟨v1, v2, v3, v4, v5, v6, v7, vl⟩, hvv⟩ : ∃ p, (readVerL s).getD verZ = p := ⟨_, rfl⟩
  obtain ⟨ov, hov⟩ : ∃ x, (readVerL s).isSome = x := ⟨_, rfl⟩
  obtain ⟨u1, u2, u3, u4, u5, u6, ou, hu, huR⟩ : ∃ (u1 : Int) (u2 u3 u4 u5 : List UInt8) (u6 : Int) (o : Bool), (∀ w e w', UpOut (readUpL s) w e w' → e = .returned (.tuple #[.agg #[.int .i64 u1, .string ⟨u2.toArray⟩, .string ⟨u3.toArray⟩, .string ⟨u4.toArray⟩, .string ⟨u5.toArray⟩, .int .i64 u6, .slice none 0 0], .int .i64 (if o then 0 else 59)]) ∧ Below w.heap.size w w') ∧ (∀ w e w', RUpOut (readUpL s) w e w' → e = .returned (.tuple #[.agg #[.int .i64 u1, .string ⟨u2.toArray⟩, .string ⟨u3.toArray⟩, .string ⟨u4.toArray⟩, .string ⟨u5.toArray⟩, .int .i64 u6, .slice none 0 0], .bool o]) ∧ Below w.heap.size w w') := by
    cases readUpL s with
    | none => exact ⟨0, [], [], [], [], 0, false, fun w e w' h => h, fun w e w' h => h⟩
    | some p => exact ⟨p.seq, p.bucket, p.key, p.type, p.owner, p.when_, true, fun w e w' h => h, fun w e w' h => h⟩
  obtain ⟨p1, p2, p3, p4, p5, op, hp, hpR⟩ : ∃ (p1 p2 p3 : Int) (p4 : List UInt8) (p5 : Int) (o : Bool), (∀ w e w', PartOut (readPartL s) w e w' → e = .returned (.tuple #[.agg #[.int .i64 p1, .int .i64 p2, .int .i64 p3, .string ⟨p4.toArray⟩, .int .i64 p5], .int .i64 (if o then 0 else 59)]) ∧ Below w.heap.size w w') ∧ (∀ w e w', RPartOut (readPartL s) w e w' → e = .returned (.tuple #[.agg #[.int .i64 p1, .int .i64 p2, .int .i64 p3, .string ⟨p4.toArray⟩, .int .i64 p5], .bool o]) ∧ Below w.heap.size w w') := by
    cases readPartL s with
    | none => exact ⟨0, 0, 0, [], 0, false, fun w e w' h => h, fun w e w' h => h⟩
    | some p => exact ⟨p.num, p.size, p.when_, p.etag, p.blob, true, fun w e w' h => h, fun w e w' h => h⟩
  have C1 : Hid (∀ W, GlobK W → Calls Tryz.prog 26 #[.string ⟨s.toArray⟩] W fun e w' => ∃ a1 c1, e = .returned (.tuple #[.agg #[.string ⟨b1.toArray⟩, .string ⟨b2.toArray⟩, .string ⟨b3.toArray⟩, .int .i64 b4, .int .i64 b5, .slice a1 bl.length c1], .int .i64 (if ob then 0 else 59)]) ∧ SlAt w' 6 (.slice a1 bl.length c1) (rlRows bl) ∧ Below W.heap.size W w') := fun W hW => by
    refine (readBk_any s W hW hs').mono ?_
    rintro e w' ⟨v, he, h1, h2⟩
    rw [hbv] at he h1
    rw [hob] at he
    obtain ⟨a, c, rfl⟩ := rl_form h1
    exact ⟨a, c, he, h1, h2⟩
  have C2 : Hid (∀ W, GlobK W → Calls Tryz.prog 27 #[.string ⟨s.toArray⟩] W fun e w' => ∃ a2 c2, e = .returned (.tuple #[.agg #[.int .i64 v1, .bool v2, .bool v3, .string ⟨v4.toArray⟩, .string ⟨v5.toArray⟩, .int .i64 v6, .int .i64 v7, .slice a2 vl.length c2], .int .i64 (if ov then 0 else 59)]) ∧ SlAt w' 1 (.slice a2 vl.length c2) (intRows vl) ∧ Below W.heap.size W w') := fun W hW => by
    refine (readVer_any s W hW hs').mono ?_
    rintro e w' ⟨v, he, h1, h2⟩
    rw [hvv] at he h1
    rw [hov] at he
    obtain ⟨a, c, rfl⟩ := sl_form h1
    exact ⟨a, c, he, h1, h2⟩
  have C3 : Hid (∀ W, GlobK W → Calls Tryz.prog 28 #[.string ⟨s.toArray⟩] W fun e w' => e = .returned (.tuple #[.agg #[.int .i64 u1, .string ⟨u2.toArray⟩, .string ⟨u3.toArray⟩, .string ⟨u4.toArray⟩, .string ⟨u5.toArray⟩, .int .i64 u6, .slice none 0 0], .int .i64 (if ou then 0 else 59)]) ∧ Below W.heap.size W w') := fun W hW => (readUp_any s W hW hs').mono (fun e w' h => hu W e w' h)
  have C4 : Hid (∀ W, GlobK W → Calls Tryz.prog 29 #[.string ⟨s.toArray⟩] W fun e w' => e = .returned (.tuple #[.agg #[.int .i64 p1, .int .i64 p2, .int .i64 p3, .string ⟨p4.toArray⟩, .int .i64 p5], .int .i64 (if op then 0 else 59)]) ∧ Below W.heap.size W w') := fun W hW => (readPart_any s W hW.g hs').mono (fun e w' h => hp W e w' h)
  have C5 : Hid (∀ W, Calls Tryz.prog 30 #[.string ⟨s.toArray⟩] W fun e w' => ∃ a5 c5, e = .returned (.tuple #[.agg #[.string ⟨b1.toArray⟩, .string ⟨b2.toArray⟩, .string ⟨b3.toArray⟩, .int .i64 b4, .int .i64 b5, .slice a5 bl.length c5], .bool ob]) ∧ SlAt w' 6 (.slice a5 bl.length c5) (rlRows bl) ∧ Below W.heap.size W w') := fun W => by
    refine (rReadBk_any s hs W).mono ?_
    rintro e w' ⟨v, he, h1, h2⟩
    rw [hbv] at he h1
    rw [hob] at he
    obtain ⟨a, c, rfl⟩ := rl_form h1
    exact ⟨a, c, he, h1, h2⟩
  have C6 : Hid (∀ W, Calls Tryz.prog 31 #[.string ⟨s.toArray⟩] W fun e w' => ∃ a6 c6, e = .returned (.tuple #[.agg #[.int .i64 v1, .bool v2, .bool v3, .string ⟨v4.toArray⟩, .string ⟨v5.toArray⟩, .int .i64 v6, .int .i64 v7, .slice a6 vl.length c6], .bool ov]) ∧ SlAt w' 1 (.slice a6 vl.length c6) (intRows vl) ∧ Below W.heap.size W w') := fun W => by
    refine (rReadVer_any s hs W).mono ?_
    rintro e w' ⟨v, he, h1, h2⟩
    rw [hvv] at he h1
    rw [hov] at he
    obtain ⟨a, c, rfl⟩ := sl_form h1
    exact ⟨a, c, he, h1, h2⟩
  have C7 : Hid (∀ W, Calls Tryz.prog 32 #[.string ⟨s.toArray⟩] W fun e w' => e = .returned (.tuple #[.agg #[.int .i64 u1, .string ⟨u2.toArray⟩, .string ⟨u3.toArray⟩, .string ⟨u4.toArray⟩, .string ⟨u5.toArray⟩, .int .i64 u6, .slice none 0 0], .bool ou]) ∧ Below W.heap.size W w') := fun W => (rReadUp_any s hs W).mono (fun e w' h => huR W e w' h)
  have C8 : Hid (∀ W, Calls Tryz.prog 33 #[.string ⟨s.toArray⟩] W fun e w' => e = .returned (.tuple #[.agg #[.int .i64 p1, .int .i64 p2, .int .i64 p3, .string ⟨p4.toArray⟩, .int .i64 p5], .bool op]) ∧ Below W.heap.size W w') := fun W => (rReadPart_any s hs W).mono (fun e w' h => hpR W e w' h)
  have CI : Hid (∀ v v' W, SlAt W 6 v (rlRows bl) → SlAt W 6 v' (rlRows bl) → Calls Tryz.prog 34 #[.agg (BkV.cells ⟨b1, b2, b3, b4, b5, bl⟩ v), .agg (BkV.cells ⟨b1, b2, b3, b4, b5, bl⟩ v')] W fun e w' => e = .returned (.bool true) ∧ Below W.heap.size W w') := fun v v' W h h' => sameBk_any ⟨b1, b2, b3, b4, b5, bl⟩ v v' W h h'
  have CK : Hid (∀ v v' W, SlAt W 1 v (intRows vl) → SlAt W 1 v' (intRows vl) → Calls Tryz.prog 35 #[.agg (VerV.cells ⟨v1, v2, v3, v4, v5, v6, v7, vl⟩ v), .agg (VerV.cells ⟨v1, v2, v3, v4, v5, v6, v7, vl⟩ v')] W fun e w' => e = .returned (.bool true) ∧ Below W.heap.size W w') := fun v v' W h h' => sameVer_any ⟨v1, v2, v3, v4, v5, v6, v7, vl⟩ v v' W h h'
  have CL : Hid (∀ W, Calls Tryz.prog 36 #[.agg #[.int .i64 u1, .string ⟨u2.toArray⟩, .string ⟨u3.toArray⟩, .string ⟨u4.toArray⟩, .string ⟨u5.toArray⟩, .int .i64 u6, .slice none 0 0], .agg #[.int .i64 u1, .string ⟨u2.toArray⟩, .string ⟨u3.toArray⟩, .string ⟨u4.toArray⟩, .string ⟨u5.toArray⟩, .int .i64 u6, .slice none 0 0]] W fun e w' => e = .returned (.bool true) ∧ Below W.heap.size W w') := fun W => sameUp_any ⟨u1, u2, u3, u4, u5, u6⟩ W
  have CE : Hid (∀ W, (binOp .eql 56 (.agg #[.int .i64 p1, .int .i64 p2, .int .i64 p3, .string ⟨p4.toArray⟩, .int .i64 p5]) (.agg #[.int .i64 p1, .int .i64 p2, .int .i64 p3, .string ⟨p4.toArray⟩, .int .i64 p5])).run Tryz.prog W = .ok (.bool true) W) := fun W => eql_part ⟨p1, p2, p3, p4, p5⟩ W
  have F1 : Hid (∀ o W, Calls Tryz.prog 37 #[.int .i64 (if o = true then 0 else 59), .bool o, .int .i64 59] W fun e w' => e = .returned (.bool true) ∧ Below W.heap.size W w') := fun o W => fits_same o 59 W
  clear hbv hob hvv hov hu huR hp hpR hs hs'
  obtain ⟨xb, hxb⟩ : ∃ x : Int, (if ob = true then 0 else 59) = x := ⟨_, rfl⟩
  obtain ⟨xv, hxv⟩ : ∃ x : Int, (if ov = true then 0 else 59) = x := ⟨_, rfl⟩
  obtain ⟨xu, hxu⟩ : ∃ x : Int, (if ou = true then 0 else 59) = x := ⟨_, rfl⟩
  obtain ⟨xp, hxp⟩ : ∃ x : Int, (if op = true then 0 else 59) = x := ⟨_, rfl⟩
  rw [hxb] at C1
  rw [hxv] at C2
  rw [hxu] at C3
  rw [hxp] at C4
  have FB := Lib.hid (F1.out ob)
  have FV := Lib.hid (F1.out ov)
  have FU := Lib.hid (F1.out ou)
  have FP := Lib.hid (F1.out op)
  rw [hxb] at FB
  rw [hxv] at FV
  rw [hxu] at FU
  rw [hxp] at FP
  clear hxb hxv hxu hxp F1
  go_enter Tryz.func6, Tryz.ntmps6
  go_wp2_with fail
  refine Calls.mono HE.out ?_
  rintro e w0 ⟨rfl, hb0⟩
  have B0 := Lib.hid hb0
  clear hb0 HE
  go_wp2_with fail
  refine Calls.mono (C1.out _ (HG.out _ B0.out)) ?_
  rintro e r1 ⟨a1, c1, rfl, hsl, hb⟩
  have B0 := Lib.hid (B0.out.trans (hb.mono B0.out.size))
  have S1 := Lib.hid hsl
  clear hb hsl C1
  have hA : Below r1.heap.size r1 ((r1.alloc (.cells bkZeroC 41)).setRow r1.heap.size #[.string ⟨b1.toArray⟩, .string ⟨b2.toArray⟩, .string ⟨b3.toArray⟩, .int .i64 b4, .int .i64 b5, .slice a1 bl.length c1]) := below_one_row _ _ _ _ _ (Below.alloc (Below.refl _ _) (Nat.le_refl _) _) (Nat.le_refl _)
  have P7 : Hid ((fun W : World => Below w.heap.size w W ∧ SlAt W 6 (.slice a1 bl.length c1) (rlRows bl) ∧ W.heap[r1.heap.size]? = some (.cells #[.string ⟨b1.toArray⟩, .string ⟨b2.toArray⟩, .string ⟨b3.toArray⟩, .int .i64 b4, .int .i64 b5, .slice a1 bl.length c1] 41 (0, 0))) ((r1.alloc (.cells bkZeroC 41)).setRow r1.heap.size #[.string ⟨b1.toArray⟩, .string ⟨b2.toArray⟩, .string ⟨b3.toArray⟩, .int .i64 b4, .int .i64 b5, .slice a1 bl.length c1])) := ⟨B0.out.trans (hA.mono B0.out.size), S1.out.later hA, setRow_heap _ _ _ _ _ _ (heap_alloc_new _ _)⟩
  clear hA B0 S1
  go_wp2_with (refine wpList_store_rowN (by rfl) 41 _ _ (by rfl) _ #[.string ⟨b1.toArray⟩, .string ⟨b2.toArray⟩, .string ⟨b3.toArray⟩, .int .i64 b4, .int .i64 b5, .slice a1 bl.length c1] (by rfl) (by rfl) 41 _ (by exact heap_alloc_new _ _) (by kernel_rfl) (by kernel_rfl) (by kernel_rfl) (fun W : World => Below w.heap.size w W ∧ SlAt W 6 (.slice a1 bl.length c1) (rlRows bl) ∧ W.heap[r1.heap.size]? = some (.cells #[.string ⟨b1.toArray⟩, .string ⟨b2.toArray⟩, .string ⟨b3.toArray⟩, .int .i64 b4, .int .i64 b5, .slice a1 bl.length c1] 41 (0, 0))) P7.out ?_
               clear P7
               generalize r1.heap.size = g1
               rintro w1 ⟨B0, S1, X1⟩
               have B0 := Lib.hid B0
               have S1 := Lib.hid S1
               have X1 := Lib.hid X1)
  refine Calls.mono (C2.out _ (HG.out _ B0.out)) ?_
  rintro e r2 ⟨a2, c2, rfl, hsl, hb⟩
  have B0 := Lib.hid (B0.out.trans (hb.mono B0.out.size))
  have S1 := Lib.hid (S1.out.later hb)
  have X1 := Lib.hid ((hb.block _ (Array.getElem?_eq_some_iff.1 X1.out).1).trans X1.out)
  have S2 := Lib.hid hsl
  clear hb hsl C2
  have hA : Below r2.heap.size r2 ((r2.alloc (.cells verZeroC 47)).setRow r2.heap.size #[.int .i64 v1, .bool v2, .bool v3, .string ⟨v4.toArray⟩, .string ⟨v5.toArray⟩, .int .i64 v6, .int .i64 v7, .slice a2 vl.length c2]) := below_one_row _ _ _ _ _ (Below.alloc (Below.refl _ _) (Nat.le_refl _) _) (Nat.le_refl _)
  have P7 : Hid ((fun W : World => Below w.heap.size w W ∧ SlAt W 6 (.slice a1 bl.length c1) (rlRows bl) ∧ W.heap[g1]? = some (.cells #[.string ⟨b1.toArray⟩, .string ⟨b2.toArray⟩, .string ⟨b3.toArray⟩, .int .i64 b4, .int .i64 b5, .slice a1 bl.length c1] 41 (0, 0)) ∧ SlAt W 1 (.slice a2 vl.length c2) (intRows vl) ∧ W.heap[r2.heap.size]? = some (.cells #[.int .i64 v1, .bool v2, .bool v3, .string ⟨v4.toArray⟩, .string ⟨v5.toArray⟩, .int .i64 v6, .int .i64 v7, .slice a2 vl.length c2] 47 (0, 0))) ((r2.alloc (.cells verZeroC 47)).setRow r2.heap.size #[.int .i64 v1, .bool v2, .bool v3, .string ⟨v4.toArray⟩, .string ⟨v5.toArray⟩, .int .i64 v6, .int .i64 v7, .slice a2 vl.length c2])) := ⟨B0.out.trans (hA.mono B0.out.size), S1.out.later hA, (hA.block _ (Array.getElem?_eq_some_iff.1 X1.out).1).trans X1.out, S2.out.later hA, setRow_heap _ _ _ _ _ _ (heap_alloc_new _ _)⟩
  clear hA B0 S1 X1 S2
  go_wp2_with (refine wpList_store_rowN (by rfl) 47 _ _ (by rfl) _ #[.int .i64 v1, .bool v2, .bool v3, .string ⟨v4.toArray⟩, .string ⟨v5.toArray⟩, .int .i64 v6, .int .i64 v7, .slice a2 vl.length c2] (by rfl) (by rfl) 47 _ (by exact heap_alloc_new _ _) (by kernel_rfl) (by kernel_rfl) (by kernel_rfl) (fun W : World => Below w.heap.size w W ∧ SlAt W 6 (.slice a1 bl.length c1) (rlRows bl) ∧ W.heap[g1]? = some (.cells #[.string ⟨b1.toArray⟩, .string ⟨b2.toArray⟩, .string ⟨b3.toArray⟩, .int .i64 b4, .int .i64 b5, .slice a1 bl.length c1] 41 (0, 0)) ∧ SlAt W 1 (.slice a2 vl.length c2) (intRows vl) ∧ W.heap[r2.heap.size]? = some (.cells #[.int .i64 v1, .bool v2, .bool v3, .string ⟨v4.toArray⟩, .string ⟨v5.toArray⟩, .int .i64 v6, .int .i64 v7, .slice a2 vl.length c2] 47 (0, 0))) P7.out ?_
               clear P7
               generalize r2.heap.size = g2
               rintro w2 ⟨B0, S1, X1, S2, X2⟩
               have B0 := Lib.hid B0
               have S1 := Lib.hid S1
               have X1 := Lib.hid X1
               have S2 := Lib.hid S2
               have X2 := Lib.hid X2)
  refine Calls.mono (C3.out _ (HG.out _ B0.out)) ?_
  rintro e r3 ⟨rfl, hb⟩
  have B0 := Lib.hid (B0.out.trans (hb.mono B0.out.size))
  have S1 := Lib.hid (S1.out.later hb)
  have X1 := Lib.hid ((hb.block _ (Array.getElem?_eq_some_iff.1 X1.out).1).trans X1.out)
  have S2 := Lib.hid (S2.out.later hb)
  have X2 := Lib.hid ((hb.block _ (Array.getElem?_eq_some_iff.1 X2.out).1).trans X2.out)
  clear hb C3
  have hA : Below r3.heap.size r3 ((r3.alloc (.cells upZero 52)).setRow r3.heap.size #[.int .i64 u1, .string ⟨u2.toArray⟩, .string ⟨u3.toArray⟩, .string ⟨u4.toArray⟩, .string ⟨u5.toArray⟩, .int .i64 u6, .slice none 0 0]) := below_one_row _ _ _ _ _ (Below.alloc (Below.refl _ _) (Nat.le_refl _) _) (Nat.le_refl _)
  have P7 : Hid ((fun W : World => Below w.heap.size w W ∧ SlAt W 6 (.slice a1 bl.length c1) (rlRows bl) ∧ W.heap[g1]? = some (.cells #[.string ⟨b1.toArray⟩, .string ⟨b2.toArray⟩, .string ⟨b3.toArray⟩, .int .i64 b4, .int .i64 b5, .slice a1 bl.length c1] 41 (0, 0)) ∧ SlAt W 1 (.slice a2 vl.length c2) (intRows vl) ∧ W.heap[g2]? = some (.cells #[.int .i64 v1, .bool v2, .bool v3, .string ⟨v4.toArray⟩, .string ⟨v5.toArray⟩, .int .i64 v6, .int .i64 v7, .slice a2 vl.length c2] 47 (0, 0)) ∧ W.heap[r3.heap.size]? = some (.cells #[.int .i64 u1, .string ⟨u2.toArray⟩, .string ⟨u3.toArray⟩, .string ⟨u4.toArray⟩, .string ⟨u5.toArray⟩, .int .i64 u6, .slice none 0 0] 52 (0, 0))) ((r3.alloc (.cells upZero 52)).setRow r3.heap.size #[.int .i64 u1, .string ⟨u2.toArray⟩, .string ⟨u3.toArray⟩, .string ⟨u4.toArray⟩, .string ⟨u5.toArray⟩, .int .i64 u6, .slice none 0 0])) := ⟨B0.out.trans (hA.mono B0.out.size), S1.out.later hA, (hA.block _ (Array.getElem?_eq_some_iff.1 X1.out).1).trans X1.out, S2.out.later hA, (hA.block _ (Array.getElem?_eq_some_iff.1 X2.out).1).trans X2.out, setRow_heap _ _ _ _ _ _ (heap_alloc_new _ _)⟩
  clear hA B0 S1 X1 S2 X2
  go_wp2_with (refine wpList_store_rowN (by rfl) 52 _ _ (by rfl) _ #[.int .i64 u1, .string ⟨u2.toArray⟩, .string ⟨u3.toArray⟩, .string ⟨u4.toArray⟩, .string ⟨u5.toArray⟩, .int .i64 u6, .slice none 0 0] (by rfl) (by rfl) 52 _ (by exact heap_alloc_new _ _) (by kernel_rfl) (by kernel_rfl) (by kernel_rfl) (fun W : World => Below w.heap.size w W ∧ SlAt W 6 (.slice a1 bl.length c1) (rlRows bl) ∧ W.heap[g1]? = some (.cells #[.string ⟨b1.toArray⟩, .string ⟨b2.toArray⟩, .string ⟨b3.toArray⟩, .int .i64 b4, .int .i64 b5, .slice a1 bl.length c1] 41 (0, 0)) ∧ SlAt W 1 (.slice a2 vl.length c2) (intRows vl) ∧ W.heap[g2]? = some (.cells #[.int .i64 v1, .bool v2, .bool v3, .string ⟨v4.toArray⟩, .string ⟨v5.toArray⟩, .int .i64 v6, .int .i64 v7, .slice a2 vl.length c2] 47 (0, 0)) ∧ W.heap[r3.heap.size]? = some (.cells #[.int .i64 u1, .string ⟨u2.toArray⟩, .string ⟨u3.toArray⟩, .string ⟨u4.toArray⟩, .string ⟨u5.toArray⟩, .int .i64 u6, .slice none 0 0] 52 (0, 0))) P7.out ?_
               clear P7
               generalize r3.heap.size = g3
               rintro w3 ⟨B0, S1, X1, S2, X2, X3⟩
               have B0 := Lib.hid B0
               have S1 := Lib.hid S1
               have X1 := Lib.hid X1
               have S2 := Lib.hid S2
               have X2 := Lib.hid X2
               have X3 := Lib.hid X3)
  refine Calls.mono (C4.out _ (HG.out _ B0.out)) ?_
  rintro e r4 ⟨rfl, hb⟩
  have B0 := Lib.hid (B0.out.trans (hb.mono B0.out.size))
  have S1 := Lib.hid (S1.out.later hb)
  have X1 := Lib.hid ((hb.block _ (Array.getElem?_eq_some_iff.1 X1.out).1).trans X1.out)
  have S2 := Lib.hid (S2.out.later hb)
  have X2 := Lib.hid ((hb.block _ (Array.getElem?_eq_some_iff.1 X2.out).1).trans X2.out)
  have X3 := Lib.hid ((hb.block _ (Array.getElem?_eq_some_iff.1 X3.out).1).trans X3.out)
  clear hb C4
  have hA : Below r4.heap.size r4 ((r4.alloc (.cells partZero 56)).setRow r4.heap.size #[.int .i64 p1, .int .i64 p2, .int .i64 p3, .string ⟨p4.toArray⟩, .int .i64 p5]) := below_one_row _ _ _ _ _ (Below.alloc (Below.refl _ _) (Nat.le_refl _) _) (Nat.le_refl _)
  have P7 : Hid ((fun W : World => Below w.heap.size w W ∧ SlAt W 6 (.slice a1 bl.length c1) (rlRows bl) ∧ W.heap[g1]? = some (.cells #[.string ⟨b1.toArray⟩, .string ⟨b2.toArray⟩, .string ⟨b3.toArray⟩, .int .i64 b4, .int .i64 b5, .slice a1 bl.length c1] 41 (0, 0)) ∧ SlAt W 1 (.slice a2 vl.length c2) (intRows vl) ∧ W.heap[g2]? = some (.cells #[.int .i64 v1, .bool v2, .bool v3, .string ⟨v4.toArray⟩, .string ⟨v5.toArray⟩, .int .i64 v6, .int .i64 v7, .slice a2 vl.length c2] 47 (0, 0)) ∧ W.heap[g3]? = some (.cells #[.int .i64 u1, .string ⟨u2.toArray⟩, .string ⟨u3.toArray⟩, .string ⟨u4.toArray⟩, .string ⟨u5.toArray⟩, .int .i64 u6, .slice none 0 0] 52 (0, 0)) ∧ W.heap[r4.heap.size]? = some (.cells #[.int .i64 p1, .int .i64 p2, .int .i64 p3, .string ⟨p4.toArray⟩, .int .i64 p5] 56 (0, 0))) ((r4.alloc (.cells partZero 56)).setRow r4.heap.size #[.int .i64 p1, .int .i64 p2, .int .i64 p3, .string ⟨p4.toArray⟩, .int .i64 p5])) := ⟨B0.out.trans (hA.mono B0.out.size), S1.out.later hA, (hA.block _ (Array.getElem?_eq_some_iff.1 X1.out).1).trans X1.out, S2.out.later hA, (hA.block _ (Array.getElem?_eq_some_iff.1 X2.out).1).trans X2.out, (hA.block _ (Array.getElem?_eq_some_iff.1 X3.out).1).trans X3.out, setRow_heap _ _ _ _ _ _ (heap_alloc_new _ _)⟩
  clear hA B0 S1 X1 S2 X2 X3
  go_wp2_with (refine wpList_store_rowN (by rfl) 56 _ _ (by rfl) _ #[.int .i64 p1, .int .i64 p2, .int .i64 p3, .string ⟨p4.toArray⟩, .int .i64 p5] (by rfl) (by rfl) 56 _ (by exact heap_alloc_new _ _) (by kernel_rfl) (by kernel_rfl) (by kernel_rfl) (fun W : World => Below w.heap.size w W ∧ SlAt W 6 (.slice a1 bl.length c1) (rlRows bl) ∧ W.heap[g1]? = some (.cells #[.string ⟨b1.toArray⟩, .string ⟨b2.toArray⟩, .string ⟨b3.toArray⟩, .int .i64 b4, .int .i64 b5, .slice a1 bl.length c1] 41 (0, 0)) ∧ SlAt W 1 (.slice a2 vl.length c2) (intRows vl) ∧ W.heap[g2]? = some (.cells #[.int .i64 v1, .bool v2, .bool v3, .string ⟨v4.toArray⟩, .string ⟨v5.toArray⟩, .int .i64 v6, .int .i64 v7, .slice a2 vl.length c2] 47 (0, 0)) ∧ W.heap[g3]? = some (.cells #[.int .i64 u1, .string ⟨u2.toArray⟩, .string ⟨u3.toArray⟩, .string ⟨u4.toArray⟩, .string ⟨u5.toArray⟩, .int .i64 u6, .slice none 0 0] 52 (0, 0)) ∧ W.heap[r4.heap.size]? = some (.cells #[.int .i64 p1, .int .i64 p2, .int .i64 p3, .string ⟨p4.toArray⟩, .int .i64 p5] 56 (0, 0))) P7.out ?_
               clear P7
               generalize r4.heap.size = g4
               rintro w4 ⟨B0, S1, X1, S2, X2, X3, X4⟩
               have B0 := Lib.hid B0
               have S1 := Lib.hid S1
               have X1 := Lib.hid X1
               have S2 := Lib.hid S2
               have X2 := Lib.hid X2
               have X3 := Lib.hid X3
               have X4 := Lib.hid X4)
  refine Calls.mono (C5.out _) ?_
  rintro e r5 ⟨a5, c5, rfl, hsl, hb⟩
  have B0 := Lib.hid (B0.out.trans (hb.mono B0.out.size))
  have S1 := Lib.hid (S1.out.later hb)
  have X1 := Lib.hid ((hb.block _ (Array.getElem?_eq_some_iff.1 X1.out).1).trans X1.out)
  have S2 := Lib.hid (S2.out.later hb)
  have X2 := Lib.hid ((hb.block _ (Array.getElem?_eq_some_iff.1 X2.out).1).trans X2.out)
  have X3 := Lib.hid ((hb.block _ (Array.getElem?_eq_some_iff.1 X3.out).1).trans X3.out)
  have X4 := Lib.hid ((hb.block _ (Array.getElem?_eq_some_iff.1 X4.out).1).trans X4.out)
  have S5 := Lib.hid hsl
  clear hb hsl C5
  have hA : Below r5.heap.size r5 ((r5.alloc (.cells bkZeroC 41)).setRow r5.heap.size #[.string ⟨b1.toArray⟩, .string ⟨b2.toArray⟩, .string ⟨b3.toArray⟩, .int .i64 b4, .int .i64 b5, .slice a5 bl.length c5]) := below_one_row _ _ _ _ _ (Below.alloc (Below.refl _ _) (Nat.le_refl _) _) (Nat.le_refl _)
  have P7 : Hid ((fun W : World => Below w.heap.size w W ∧ SlAt W 6 (.slice a1 bl.length c1) (rlRows bl) ∧ W.heap[g1]? = some (.cells #[.string ⟨b1.toArray⟩, .string ⟨b2.toArray⟩, .string ⟨b3.toArray⟩, .int .i64 b4, .int .i64 b5, .slice a1 bl.length c1] 41 (0, 0)) ∧ SlAt W 1 (.slice a2 vl.length c2) (intRows vl) ∧ W.heap[g2]? = some (.cells #[.int .i64 v1, .bool v2, .bool v3, .string ⟨v4.toArray⟩, .string ⟨v5.toArray⟩, .int .i64 v6, .int .i64 v7, .slice a2 vl.length c2] 47 (0, 0)) ∧ W.heap[g3]? = some (.cells #[.int .i64 u1, .string ⟨u2.toArray⟩, .string ⟨u3.toArray⟩, .string ⟨u4.toArray⟩, .string ⟨u5.toArray⟩, .int .i64 u6, .slice none 0 0] 52 (0, 0)) ∧ W.heap[g4]? = some (.cells #[.int .i64 p1, .int .i64 p2, .int .i64 p3, .string ⟨p4.toArray⟩, .int .i64 p5] 56 (0, 0)) ∧ SlAt W 6 (.slice a5 bl.length c5) (rlRows bl) ∧ W.heap[r5.heap.size]? = some (.cells #[.string ⟨b1.toArray⟩, .string ⟨b2.toArray⟩, .string ⟨b3.toArray⟩, .int .i64 b4, .int .i64 b5, .slice a5 bl.length c5] 41 (0, 0))) ((r5.alloc (.cells bkZeroC 41)).setRow r5.heap.size #[.string ⟨b1.toArray⟩, .string ⟨b2.toArray⟩, .string ⟨b3.toArray⟩, .int .i64 b4, .int .i64 b5, .slice a5 bl.length c5])) := ⟨B0.out.trans (hA.mono B0.out.size), S1.out.later hA, (hA.block _ (Array.getElem?_eq_some_iff.1 X1.out).1).trans X1.out, S2.out.later hA, (hA.block _ (Array.getElem?_eq_some_iff.1 X2.out).1).trans X2.out, (hA.block _ (Array.getElem?_eq_some_iff.1 X3.out).1).trans X3.out, (hA.block _ (Array.getElem?_eq_some_iff.1 X4.out).1).trans X4.out, S5.out.later hA, setRow_heap _ _ _ _ _ _ (heap_alloc_new _ _)⟩
  clear hA B0 S1 X1 S2 X2 X3 X4 S5
  go_wp2_with (refine wpList_store_rowN (by rfl) 41 _ _ (by rfl) _ #[.string ⟨b1.toArray⟩, .string ⟨b2.toArray⟩, .string ⟨b3.toArray⟩, .int .i64 b4, .int .i64 b5, .slice a5 bl.length c5] (by rfl) (by rfl) 41 _ (by exact heap_alloc_new _ _) (by kernel_rfl) (by kernel_rfl) (by kernel_rfl) (fun W : World => Below w.heap.size w W ∧ SlAt W 6 (.slice a1 bl.length c1) (rlRows bl) ∧ W.heap[g1]? = some (.cells #[.string ⟨b1.toArray⟩, .string ⟨b2.toArray⟩, .string ⟨b3.toArray⟩, .int .i64 b4, .int .i64 b5, .slice a1 bl.length c1] 41 (0, 0)) ∧ SlAt W 1 (.slice a2 vl.length c2) (intRows vl) ∧ W.heap[g2]? = some (.cells #[.int .i64 v1, .bool v2, .bool v3, .string ⟨v4.toArray⟩, .string ⟨v5.toArray⟩, .int .i64 v6, .int .i64 v7, .slice a2 vl.length c2] 47 (0, 0)) ∧ W.heap[g3]? = some (.cells #[.int .i64 u1, .string ⟨u2.toArray⟩, .string ⟨u3.toArray⟩, .string ⟨u4.toArray⟩, .string ⟨u5.toArray⟩, .int .i64 u6, .slice none 0 0] 52 (0, 0)) ∧ W.heap[g4]? = some (.cells #[.int .i64 p1, .int .i64 p2, .int .i64 p3, .string ⟨p4.toArray⟩, .int .i64 p5] 56 (0, 0)) ∧ SlAt W 6 (.slice a5 bl.length c5) (rlRows bl) ∧ W.heap[r5.heap.size]? = some (.cells #[.string ⟨b1.toArray⟩, .string ⟨b2.toArray⟩, .string ⟨b3.toArray⟩, .int .i64 b4, .int .i64 b5, .slice a5 bl.length c5] 41 (0, 0))) P7.out ?_
               clear P7
               generalize r5.heap.size = g5
               rintro w5 ⟨B0, S1, X1, S2, X2, X3, X4, S5, X5⟩
               have B0 := Lib.hid B0
               have S1 := Lib.hid S1
               have X1 := Lib.hid X1
               have S2 := Lib.hid S2
               have X2 := Lib.hid X2
               have X3 := Lib.hid X3
               have X4 := Lib.hid X4
               have S5 := Lib.hid S5
               have X5 := Lib.hid X5)
  refine Calls.mono (C6.out _) ?_
  rintro e r6 ⟨a6, c6, rfl, hsl, hb⟩
  have B0 := Lib.hid (B0.out.trans (hb.mono B0.out.size))
  have S1 := Lib.hid (S1.out.later hb)
  have X1 := Lib.hid ((hb.block _ (Array.getElem?_eq_some_iff.1 X1.out).1).trans X1.out)
  have S2 := Lib.hid (S2.out.later hb)
  have X2 := Lib.hid ((hb.block _ (Array.getElem?_eq_some_iff.1 X2.out).1).trans X2.out)
  have X3 := Lib.hid ((hb.block _ (Array.getElem?_eq_some_iff.1 X3.out).1).trans X3.out)
  have X4 := Lib.hid ((hb.block _ (Array.getElem?_eq_some_iff.1 X4.out).1).trans X4.out)
  have S5 := Lib.hid (S5.out.later hb)
  have X5 := Lib.hid ((hb.block _ (Array.getElem?_eq_some_iff.1 X5.out).1).trans X5.out)
  have S6 := Lib.hid hsl
  clear hb hsl C6
  have hA : Below r6.heap.size r6 ((r6.alloc (.cells verZeroC 47)).setRow r6.heap.size #[.int .i64 v1, .bool v2, .bool v3, .string ⟨v4.toArray⟩, .string ⟨v5.toArray⟩, .int .i64 v6, .int .i64 v7, .slice a6 vl.length c6]) := below_one_row _ _ _ _ _ (Below.alloc (Below.refl _ _) (Nat.le_refl _) _) (Nat.le_refl _)
  have P7 : Hid ((fun W : World => Below w.heap.size w W ∧ SlAt W 6 (.slice a1 bl.length c1) (rlRows bl) ∧ W.heap[g1]? = some (.cells #[.string ⟨b1.toArray⟩, .string ⟨b2.toArray⟩, .string ⟨b3.toArray⟩, .int .i64 b4, .int .i64 b5, .slice a1 bl.length c1] 41 (0, 0)) ∧ SlAt W 1 (.slice a2 vl.length c2) (intRows vl) ∧ W.heap[g2]? = some (.cells #[.int .i64 v1, .bool v2, .bool v3, .string ⟨v4.toArray⟩, .string ⟨v5.toArray⟩, .int .i64 v6, .int .i64 v7, .slice a2 vl.length c2] 47 (0, 0)) ∧ W.heap[g3]? = some (.cells #[.int .i64 u1, .string ⟨u2.toArray⟩, .string ⟨u3.toArray⟩, .string ⟨u4.toArray⟩, .string ⟨u5.toArray⟩, .int .i64 u6, .slice none 0 0] 52 (0, 0)) ∧ W.heap[g4]? = some (.cells #[.int .i64 p1, .int .i64 p2, .int .i64 p3, .string ⟨p4.toArray⟩, .int .i64 p5] 56 (0, 0)) ∧ SlAt W 6 (.slice a5 bl.length c5) (rlRows bl) ∧ W.heap[g5]? = some (.cells #[.string ⟨b1.toArray⟩, .string ⟨b2.toArray⟩, .string ⟨b3.toArray⟩, .int .i64 b4, .int .i64 b5, .slice a5 bl.length c5] 41 (0, 0)) ∧ SlAt W 1 (.slice a6 vl.length c6) (intRows vl) ∧ W.heap[r6.heap.size]? = some (.cells #[.int .i64 v1, .bool v2, .bool v3, .string ⟨v4.toArray⟩, .string ⟨v5.toArray⟩, .int .i64 v6, .int .i64 v7, .slice a6 vl.length c6] 47 (0, 0))) ((r6.alloc (.cells verZeroC 47)).setRow r6.heap.size #[.int .i64 v1, .bool v2, .bool v3, .string ⟨v4.toArray⟩, .string ⟨v5.toArray⟩, .int .i64 v6, .int .i64 v7, .slice a6 vl.length c6])) := ⟨B0.out.trans (hA.mono B0.out.size), S1.out.later hA, (hA.block _ (Array.getElem?_eq_some_iff.1 X1.out).1).trans X1.out, S2.out.later hA, (hA.block _ (Array.getElem?_eq_some_iff.1 X2.out).1).trans X2.out, (hA.block _ (Array.getElem?_eq_some_iff.1 X3.out).1).trans X3.out, (hA.block _ (Array.getElem?_eq_some_iff.1 X4.out).1).trans X4.out, S5.out.later hA, (hA.block _ (Array.getElem?_eq_some_iff.1 X5.out).1).trans X5.out, S6.out.later hA, setRow_heap _ _ _ _ _ _ (heap_alloc_new _ _)⟩
  clear hA B0 S1 X1 S2 X2 X3 X4 S5 X5 S6
  go_wp2_with (refine wpList_store_rowN (by rfl) 47 _ _ (by rfl) _ #[.int .i64 v1, .bool v2, .bool v3, .string ⟨v4.toArray⟩, .string ⟨v5.toArray⟩, .int .i64 v6, .int .i64 v7, .slice a6 vl.length c6] (by rfl) (by rfl) 47 _ (by exact heap_alloc_new _ _) (by kernel_rfl) (by kernel_rfl) (by kernel_rfl) (fun W : World => Below w.heap.size w W ∧ SlAt W 6 (.slice a1 bl.length c1) (rlRows bl) ∧ W.heap[g1]? = some (.cells #[.string ⟨b1.toArray⟩, .string ⟨b2.toArray⟩, .string ⟨b3.toArray⟩, .int .i64 b4, .int .i64 b5, .slice a1 bl.length c1] 41 (0, 0)) ∧ SlAt W 1 (.slice a2 vl.length c2) (intRows vl) ∧ W.heap[g2]? = some (.cells #[.int .i64 v1, .bool v2, .bool v3, .string ⟨v4.toArray⟩, .string ⟨v5.toArray⟩, .int .i64 v6, .int .i64 v7, .slice a2 vl.length c2] 47 (0, 0)) ∧ W.heap[g3]? = some (.cells #[.int .i64 u1, .string ⟨u2.toArray⟩, .string ⟨u3.toArray⟩, .string ⟨u4.toArray⟩, .string ⟨u5.toArray⟩, .int .i64 u6, .slice none 0 0] 52 (0, 0)) ∧ W.heap[g4]? = some (.cells #[.int .i64 p1, .int .i64 p2, .int .i64 p3, .string ⟨p4.toArray⟩, .int .i64 p5] 56 (0, 0)) ∧ SlAt W 6 (.slice a5 bl.length c5) (rlRows bl) ∧ W.heap[g5]? = some (.cells #[.string ⟨b1.toArray⟩, .string ⟨b2.toArray⟩, .string ⟨b3.toArray⟩, .int .i64 b4, .int .i64 b5, .slice a5 bl.length c5] 41 (0, 0)) ∧ SlAt W 1 (.slice a6 vl.length c6) (intRows vl) ∧ W.heap[r6.heap.size]? = some (.cells #[.int .i64 v1, .bool v2, .bool v3, .string ⟨v4.toArray⟩, .string ⟨v5.toArray⟩, .int .i64 v6, .int .i64 v7, .slice a6 vl.length c6] 47 (0, 0))) P7.out ?_
               clear P7
               generalize r6.heap.size = g6
               rintro w6 ⟨B0, S1, X1, S2, X2, X3, X4, S5, X5, S6, X6⟩
               have B0 := Lib.hid B0
               have S1 := Lib.hid S1
               have X1 := Lib.hid X1
               have S2 := Lib.hid S2
               have X2 := Lib.hid X2
               have X3 := Lib.hid X3
               have X4 := Lib.hid X4
               have S5 := Lib.hid S5
               have X5 := Lib.hid X5
               have S6 := Lib.hid S6
               have X6 := Lib.hid X6)
  refine Calls.mono (C7.out _) ?_
  rintro e r7 ⟨rfl, hb⟩
  have B0 := Lib.hid (B0.out.trans (hb.mono B0.out.size))
  have S1 := Lib.hid (S1.out.later hb)
  have X1 := Lib.hid ((hb.block _ (Array.getElem?_eq_some_iff.1 X1.out).1).trans X1.out)
  have S2 := Lib.hid (S2.out.later hb)
  have X2 := Lib.hid ((hb.block _ (Array.getElem?_eq_some_iff.1 X2.out).1).trans X2.out)
  have X3 := Lib.hid ((hb.block _ (Array.getElem?_eq_some_iff.1 X3.out).1).trans X3.out)
  have X4 := Lib.hid ((hb.block _ (Array.getElem?_eq_some_iff.1 X4.out).1).trans X4.out)
  have S5 := Lib.hid (S5.out.later hb)
  have X5 := Lib.hid ((hb.block _ (Array.getElem?_eq_some_iff.1 X5.out).1).trans X5.out)
  have S6 := Lib.hid (S6.out.later hb)
  have X6 := Lib.hid ((hb.block _ (Array.getElem?_eq_some_iff.1 X6.out).1).trans X6.out)
  clear hb C7
  have hA : Below r7.heap.size r7 ((r7.alloc (.cells upZero 52)).setRow r7.heap.size #[.int .i64 u1, .string ⟨u2.toArray⟩, .string ⟨u3.toArray⟩, .string ⟨u4.toArray⟩, .string ⟨u5.toArray⟩, .int .i64 u6, .slice none 0 0]) := below_one_row _ _ _ _ _ (Below.alloc (Below.refl _ _) (Nat.le_refl _) _) (Nat.le_refl _)
  have P7 : Hid ((fun W : World => Below w.heap.size w W ∧ SlAt W 6 (.slice a1 bl.length c1) (rlRows bl) ∧ W.heap[g1]? = some (.cells #[.string ⟨b1.toArray⟩, .string ⟨b2.toArray⟩, .string ⟨b3.toArray⟩, .int .i64 b4, .int .i64 b5, .slice a1 bl.length c1] 41 (0, 0)) ∧ SlAt W 1 (.slice a2 vl.length c2) (intRows vl) ∧ W.heap[g2]? = some (.cells #[.int .i64 v1, .bool v2, .bool v3, .string ⟨v4.toArray⟩, .string ⟨v5.toArray⟩, .int .i64 v6, .int .i64 v7, .slice a2 vl.length c2] 47 (0, 0)) ∧ W.heap[g3]? = some (.cells #[.int .i64 u1, .string ⟨u2.toArray⟩, .string ⟨u3.toArray⟩, .string ⟨u4.toArray⟩, .string ⟨u5.toArray⟩, .int .i64 u6, .slice none 0 0] 52 (0, 0)) ∧ W.heap[g4]? = some (.cells #[.int .i64 p1, .int .i64 p2, .int .i64 p3, .string ⟨p4.toArray⟩, .int .i64 p5] 56 (0, 0)) ∧ SlAt W 6 (.slice a5 bl.length c5) (rlRows bl) ∧ W.heap[g5]? = some (.cells #[.string ⟨b1.toArray⟩, .string ⟨b2.toArray⟩, .string ⟨b3.toArray⟩, .int .i64 b4, .int .i64 b5, .slice a5 bl.length c5] 41 (0, 0)) ∧ SlAt W 1 (.slice a6 vl.length c6) (intRows vl) ∧ W.heap[g6]? = some (.cells #[.int .i64 v1, .bool v2, .bool v3, .string ⟨v4.toArray⟩, .string ⟨v5.toArray⟩, .int .i64 v6, .int .i64 v7, .slice a6 vl.length c6] 47 (0, 0)) ∧ W.heap[r7.heap.size]? = some (.cells #[.int .i64 u1, .string ⟨u2.toArray⟩, .string ⟨u3.toArray⟩, .string ⟨u4.toArray⟩, .string ⟨u5.toArray⟩, .int .i64 u6, .slice none 0 0] 52 (0, 0))) ((r7.alloc (.cells upZero 52)).setRow r7.heap.size #[.int .i64 u1, .string ⟨u2.toArray⟩, .string ⟨u3.toArray⟩, .string ⟨u4.toArray⟩, .string ⟨u5.toArray⟩, .int .i64 u6, .slice none 0 0])) := ⟨B0.out.trans (hA.mono B0.out.size), S1.out.later hA, (hA.block _ (Array.getElem?_eq_some_iff.1 X1.out).1).trans X1.out, S2.out.later hA, (hA.block _ (Array.getElem?_eq_some_iff.1 X2.out).1).trans X2.out, (hA.block _ (Array.getElem?_eq_some_iff.1 X3.out).1).trans X3.out, (hA.block _ (Array.getElem?_eq_some_iff.1 X4.out).1).trans X4.out, S5.out.later hA, (hA.block _ (Array.getElem?_eq_some_iff.1 X5.out).1).trans X5.out, S6.out.later hA, (hA.block _ (Array.getElem?_eq_some_iff.1 X6.out).1).trans X6.out, setRow_heap _ _ _ _ _ _ (heap_alloc_new _ _)⟩
  clear hA B0 S1 X1 S2 X2 X3 X4 S5 X5 S6 X6
  go_wp2_with (refine wpList_store_rowN (by rfl) 52 _ _ (by rfl) _ #[.int .i64 u1, .string ⟨u2.toArray⟩, .string ⟨u3.toArray⟩, .string ⟨u4.toArray⟩, .string ⟨u5.toArray⟩, .int .i64 u6, .slice none 0 0] (by rfl) (by rfl) 52 _ (by exact heap_alloc_new _ _) (by kernel_rfl) (by kernel_rfl) (by kernel_rfl) (fun W : World => Below w.heap.size w W ∧ SlAt W 6 (.slice a1 bl.length c1) (rlRows bl) ∧ W.heap[g1]? = some (.cells #[.string ⟨b1.toArray⟩, .string ⟨b2.toArray⟩, .string ⟨b3.toArray⟩, .int .i64 b4, .int .i64 b5, .slice a1 bl.length c1] 41 (0, 0)) ∧ SlAt W 1 (.slice a2 vl.length c2) (intRows vl) ∧ W.heap[g2]? = some (.cells #[.int .i64 v1, .bool v2, .bool v3, .string ⟨v4.toArray⟩, .string ⟨v5.toArray⟩, .int .i64 v6, .int .i64 v7, .slice a2 vl.length c2] 47 (0, 0)) ∧ W.heap[g3]? = some (.cells #[.int .i64 u1, .string ⟨u2.toArray⟩, .string ⟨u3.toArray⟩, .string ⟨u4.toArray⟩, .string ⟨u5.toArray⟩, .int .i64 u6, .slice none 0 0] 52 (0, 0)) ∧ W.heap[g4]? = some (.cells #[.int .i64 p1, .int .i64 p2, .int .i64 p3, .string ⟨p4.toArray⟩, .int .i64 p5] 56 (0, 0)) ∧ SlAt W 6 (.slice a5 bl.length c5) (rlRows bl) ∧ W.heap[g5]? = some (.cells #[.string ⟨b1.toArray⟩, .string ⟨b2.toArray⟩, .string ⟨b3.toArray⟩, .int .i64 b4, .int .i64 b5, .slice a5 bl.length c5] 41 (0, 0)) ∧ SlAt W 1 (.slice a6 vl.length c6) (intRows vl) ∧ W.heap[g6]? = some (.cells #[.int .i64 v1, .bool v2, .bool v3, .string ⟨v4.toArray⟩, .string ⟨v5.toArray⟩, .int .i64 v6, .int .i64 v7, .slice a6 vl.length c6] 47 (0, 0)) ∧ W.heap[r7.heap.size]? = some (.cells #[.int .i64 u1, .string ⟨u2.toArray⟩, .string ⟨u3.toArray⟩, .string ⟨u4.toArray⟩, .string ⟨u5.toArray⟩, .int .i64 u6, .slice none 0 0] 52 (0, 0))) P7.out ?_
               clear P7
               generalize r7.heap.size = g7
               rintro w7 ⟨B0, S1, X1, S2, X2, X3, X4, S5, X5, S6, X6, X7⟩
               have B0 := Lib.hid B0
               have S1 := Lib.hid S1
               have X1 := Lib.hid X1
               have S2 := Lib.hid S2
               have X2 := Lib.hid X2
               have X3 := Lib.hid X3
               have X4 := Lib.hid X4
               have S5 := Lib.hid S5
               have X5 := Lib.hid X5
               have S6 := Lib.hid S6
               have X6 := Lib.hid X6
               have X7 := Lib.hid X7)
  refine Calls.mono (C8.out _) ?_
  rintro e r8 ⟨rfl, hb⟩
  have B0 := Lib.hid (B0.out.trans (hb.mono B0.out.size))
  have S1 := Lib.hid (S1.out.later hb)
  have X1 := Lib.hid ((hb.block _ (Array.getElem?_eq_some_iff.1 X1.out).1).trans X1.out)
  have S2 := Lib.hid (S2.out.later hb)
  have X2 := Lib.hid ((hb.block _ (Array.getElem?_eq_some_iff.1 X2.out).1).trans X2.out)
  have X3 := Lib.hid ((hb.block _ (Array.getElem?_eq_some_iff.1 X3.out).1).trans X3.out)
  have X4 := Lib.hid ((hb.block _ (Array.getElem?_eq_some_iff.1 X4.out).1).trans X4.out)
  have S5 := Lib.hid (S5.out.later hb)
  have X5 := Lib.hid ((hb.block _ (Array.getElem?_eq_some_iff.1 X5.out).1).trans X5.out)
  have S6 := Lib.hid (S6.out.later hb)
  have X6 := Lib.hid ((hb.block _ (Array.getElem?_eq_some_iff.1 X6.out).1).trans X6.out)
  have X7 := Lib.hid ((hb.block _ (Array.getElem?_eq_some_iff.1 X7.out).1).trans X7.out)
  clear hb C8
  have hA : Below r8.heap.size r8 ((r8.alloc (.cells partZero 56)).setRow r8.heap.size #[.int .i64 p1, .int .i64 p2, .int .i64 p3, .string ⟨p4.toArray⟩, .int .i64 p5]) := below_one_row _ _ _ _ _ (Below.alloc (Below.refl _ _) (Nat.le_refl _) _) (Nat.le_refl _)
  have P7 : Hid ((fun W : World => Below w.heap.size w W ∧ SlAt W 6 (.slice a1 bl.length c1) (rlRows bl) ∧ W.heap[g1]? = some (.cells #[.string ⟨b1.toArray⟩, .string ⟨b2.toArray⟩, .string ⟨b3.toArray⟩, .int .i64 b4, .int .i64 b5, .slice a1 bl.length c1] 41 (0, 0)) ∧ SlAt W 1 (.slice a2 vl.length c2) (intRows vl) ∧ W.heap[g2]? = some (.cells #[.int .i64 v1, .bool v2, .bool v3, .string ⟨v4.toArray⟩, .string ⟨v5.toArray⟩, .int .i64 v6, .int .i64 v7, .slice a2 vl.length c2] 47 (0, 0)) ∧ W.heap[g3]? = some (.cells #[.int .i64 u1, .string ⟨u2.toArray⟩, .string ⟨u3.toArray⟩, .string ⟨u4.toArray⟩, .string ⟨u5.toArray⟩, .int .i64 u6, .slice none 0 0] 52 (0, 0)) ∧ W.heap[g4]? = some (.cells #[.int .i64 p1, .int .i64 p2, .int .i64 p3, .string ⟨p4.toArray⟩, .int .i64 p5] 56 (0, 0)) ∧ SlAt W 6 (.slice a5 bl.length c5) (rlRows bl) ∧ W.heap[g5]? = some (.cells #[.string ⟨b1.toArray⟩, .string ⟨b2.toArray⟩, .string ⟨b3.toArray⟩, .int .i64 b4, .int .i64 b5, .slice a5 bl.length c5] 41 (0, 0)) ∧ SlAt W 1 (.slice a6 vl.length c6) (intRows vl) ∧ W.heap[g6]? = some (.cells #[.int .i64 v1, .bool v2, .bool v3, .string ⟨v4.toArray⟩, .string ⟨v5.toArray⟩, .int .i64 v6, .int .i64 v7, .slice a6 vl.length c6] 47 (0, 0)) ∧ W.heap[g7]? = some (.cells #[.int .i64 u1, .string ⟨u2.toArray⟩, .string ⟨u3.toArray⟩, .string ⟨u4.toArray⟩, .string ⟨u5.toArray⟩, .int .i64 u6, .slice none 0 0] 52 (0, 0)) ∧ W.heap[r8.heap.size]? = some (.cells #[.int .i64 p1, .int .i64 p2, .int .i64 p3, .string ⟨p4.toArray⟩, .int .i64 p5] 56 (0, 0))) ((r8.alloc (.cells partZero 56)).setRow r8.heap.size #[.int .i64 p1, .int .i64 p2, .int .i64 p3, .string ⟨p4.toArray⟩, .int .i64 p5])) := ⟨B0.out.trans (hA.mono B0.out.size), S1.out.later hA, (hA.block _ (Array.getElem?_eq_some_iff.1 X1.out).1).trans X1.out, S2.out.later hA, (hA.block _ (Array.getElem?_eq_some_iff.1 X2.out).1).trans X2.out, (hA.block _ (Array.getElem?_eq_some_iff.1 X3.out).1).trans X3.out, (hA.block _ (Array.getElem?_eq_some_iff.1 X4.out).1).trans X4.out, S5.out.later hA, (hA.block _ (Array.getElem?_eq_some_iff.1 X5.out).1).trans X5.out, S6.out.later hA, (hA.block _ (Array.getElem?_eq_some_iff.1 X6.out).1).trans X6.out, (hA.block _ (Array.getElem?_eq_some_iff.1 X7.out).1).trans X7.out, setRow_heap _ _ _ _ _ _ (heap_alloc_new _ _)⟩
  clear hA B0 S1 X1 S2 X2 X3 X4 S5 X5 S6 X6 X7
  go_wp2_with (first
    | (refine wpList_store_rowN (by rfl) 56 _ _ (by rfl) _ #[.int .i64 p1, .int .i64 p2, .int .i64 p3, .string ⟨p4.toArray⟩, .int .i64 p5] (by rfl) (by rfl) 56 _ (by exact heap_alloc_new _ _) (by kernel_rfl) (by kernel_rfl) (by kernel_rfl) (fun W : World => Below w.heap.size w W ∧ SlAt W 6 (.slice a1 bl.length c1) (rlRows bl) ∧ W.heap[g1]? = some (.cells #[.string ⟨b1.toArray⟩, .string ⟨b2.toArray⟩, .string ⟨b3.toArray⟩, .int .i64 b4, .int .i64 b5, .slice a1 bl.length c1] 41 (0, 0)) ∧ SlAt W 1 (.slice a2 vl.length c2) (intRows vl) ∧ W.heap[g2]? = some (.cells #[.int .i64 v1, .bool v2, .bool v3, .string ⟨v4.toArray⟩, .string ⟨v5.toArray⟩, .int .i64 v6, .int .i64 v7, .slice a2 vl.length c2] 47 (0, 0)) ∧ W.heap[g3]? = some (.cells #[.int .i64 u1, .string ⟨u2.toArray⟩, .string ⟨u3.toArray⟩, .string ⟨u4.toArray⟩, .string ⟨u5.toArray⟩, .int .i64 u6, .slice none 0 0] 52 (0, 0)) ∧ W.heap[g4]? = some (.cells #[.int .i64 p1, .int .i64 p2, .int .i64 p3, .string ⟨p4.toArray⟩, .int .i64 p5] 56 (0, 0)) ∧ SlAt W 6 (.slice a5 bl.length c5) (rlRows bl) ∧ W.heap[g5]? = some (.cells #[.string ⟨b1.toArray⟩, .string ⟨b2.toArray⟩, .string ⟨b3.toArray⟩, .int .i64 b4, .int .i64 b5, .slice a5 bl.length c5] 41 (0, 0)) ∧ SlAt W 1 (.slice a6 vl.length c6) (intRows vl) ∧ W.heap[g6]? = some (.cells #[.int .i64 v1, .bool v2, .bool v3, .string ⟨v4.toArray⟩, .string ⟨v5.toArray⟩, .int .i64 v6, .int .i64 v7, .slice a6 vl.length c6] 47 (0, 0)) ∧ W.heap[g7]? = some (.cells #[.int .i64 u1, .string ⟨u2.toArray⟩, .string ⟨u3.toArray⟩, .string ⟨u4.toArray⟩, .string ⟨u5.toArray⟩, .int .i64 u6, .slice none 0 0] 52 (0, 0)) ∧ W.heap[r8.heap.size]? = some (.cells #[.int .i64 p1, .int .i64 p2, .int .i64 p3, .string ⟨p4.toArray⟩, .int .i64 p5] 56 (0, 0))) P7.out ?_
       clear P7
       generalize r8.heap.size = g8
       rintro w8 ⟨B0, S1, X1, S2, X2, X3, X4, S5, X5, S6, X6, X7, X8⟩
       have B0 := Lib.hid B0
       have S1 := Lib.hid S1
       have X1 := Lib.hid X1
       have S2 := Lib.hid S2
       have X2 := Lib.hid X2
       have X3 := Lib.hid X3
       have X4 := Lib.hid X4
       have S5 := Lib.hid S5
       have X5 := Lib.hid X5
       have S6 := Lib.hid S6
       have X6 := Lib.hid X6
       have X7 := Lib.hid X7
       have X8 := Lib.hid X8)
    | (refine wpList_load_row (by rfl) 41 _ (by rfl) g1 (by rfl) 41 _ (0, 0) _ (by exact X1.out) Tryz.underlying41 rfl (by kernel_rfl) ?_)
    | (refine wpList_load_row (by rfl) 41 _ (by rfl) g5 (by rfl) 41 _ (0, 0) _ (by exact X5.out) Tryz.underlying41 rfl (by kernel_rfl) ?_))
  refine Calls.mono (CI.out _ _ _ S1.out S5.out) ?_
  rintro e wA ⟨rfl, hb⟩
  have B0 := Lib.hid (B0.out.trans (hb.mono B0.out.size))
  have S1 := Lib.hid (S1.out.later hb)
  have X1 := Lib.hid ((hb.block _ (Array.getElem?_eq_some_iff.1 X1.out).1).trans X1.out)
  have S2 := Lib.hid (S2.out.later hb)
  have X2 := Lib.hid ((hb.block _ (Array.getElem?_eq_some_iff.1 X2.out).1).trans X2.out)
  have X3 := Lib.hid ((hb.block _ (Array.getElem?_eq_some_iff.1 X3.out).1).trans X3.out)
  have X4 := Lib.hid ((hb.block _ (Array.getElem?_eq_some_iff.1 X4.out).1).trans X4.out)
  have S5 := Lib.hid (S5.out.later hb)
  have X5 := Lib.hid ((hb.block _ (Array.getElem?_eq_some_iff.1 X5.out).1).trans X5.out)
  have S6 := Lib.hid (S6.out.later hb)
  have X6 := Lib.hid ((hb.block _ (Array.getElem?_eq_some_iff.1 X6.out).1).trans X6.out)
  have X7 := Lib.hid ((hb.block _ (Array.getElem?_eq_some_iff.1 X7.out).1).trans X7.out)
  have X8 := Lib.hid ((hb.block _ (Array.getElem?_eq_some_iff.1 X8.out).1).trans X8.out)
  clear hb
  go_wp2_with (first
    | (refine wpList_load_row (by rfl) 47 _ (by rfl) g2 (by rfl) 47 _ (0, 0) _ (by exact X2.out) Tryz.underlying47 rfl (by kernel_rfl) ?_)
    | (refine wpList_load_row (by rfl) 47 _ (by rfl) g6 (by rfl) 47 _ (0, 0) _ (by exact X6.out) Tryz.underlying47 rfl (by kernel_rfl) ?_))
  refine Calls.mono (CK.out _ _ _ S2.out S6.out) ?_
  rintro e wB ⟨rfl, hb⟩
  have B0 := Lib.hid (B0.out.trans (hb.mono B0.out.size))
  have S1 := Lib.hid (S1.out.later hb)
  have X1 := Lib.hid ((hb.block _ (Array.getElem?_eq_some_iff.1 X1.out).1).trans X1.out)
  have S2 := Lib.hid (S2.out.later hb)
  have X2 := Lib.hid ((hb.block _ (Array.getElem?_eq_some_iff.1 X2.out).1).trans X2.out)
  have X3 := Lib.hid ((hb.block _ (Array.getElem?_eq_some_iff.1 X3.out).1).trans X3.out)
  have X4 := Lib.hid ((hb.block _ (Array.getElem?_eq_some_iff.1 X4.out).1).trans X4.out)
  have S5 := Lib.hid (S5.out.later hb)
  have X5 := Lib.hid ((hb.block _ (Array.getElem?_eq_some_iff.1 X5.out).1).trans X5.out)
  have S6 := Lib.hid (S6.out.later hb)
  have X6 := Lib.hid ((hb.block _ (Array.getElem?_eq_some_iff.1 X6.out).1).trans X6.out)
  have X7 := Lib.hid ((hb.block _ (Array.getElem?_eq_some_iff.1 X7.out).1).trans X7.out)
  have X8 := Lib.hid ((hb.block _ (Array.getElem?_eq_some_iff.1 X8.out).1).trans X8.out)
  clear hb
  go_wp2_with (first
    | (refine wpList_load_row (by rfl) 52 _ (by rfl) g3 (by rfl) 52 _ (0, 0) _ (by exact X3.out) Tryz.underlying52 rfl (by kernel_rfl) ?_)
    | (refine wpList_load_row (by rfl) 52 _ (by rfl) g7 (by rfl) 52 _ (0, 0) _ (by exact X7.out) Tryz.underlying52 rfl (by kernel_rfl) ?_))
  refine Calls.mono (CL.out _) ?_
  rintro e wC ⟨rfl, hb⟩
  have B0 := Lib.hid (B0.out.trans (hb.mono B0.out.size))
  have S1 := Lib.hid (S1.out.later hb)
  have X1 := Lib.hid ((hb.block _ (Array.getElem?_eq_some_iff.1 X1.out).1).trans X1.out)
  have S2 := Lib.hid (S2.out.later hb)
  have X2 := Lib.hid ((hb.block _ (Array.getElem?_eq_some_iff.1 X2.out).1).trans X2.out)
  have X3 := Lib.hid ((hb.block _ (Array.getElem?_eq_some_iff.1 X3.out).1).trans X3.out)
  have X4 := Lib.hid ((hb.block _ (Array.getElem?_eq_some_iff.1 X4.out).1).trans X4.out)
  have S5 := Lib.hid (S5.out.later hb)
  have X5 := Lib.hid ((hb.block _ (Array.getElem?_eq_some_iff.1 X5.out).1).trans X5.out)
  have S6 := Lib.hid (S6.out.later hb)
  have X6 := Lib.hid ((hb.block _ (Array.getElem?_eq_some_iff.1 X6.out).1).trans X6.out)
  have X7 := Lib.hid ((hb.block _ (Array.getElem?_eq_some_iff.1 X7.out).1).trans X7.out)
  have X8 := Lib.hid ((hb.block _ (Array.getElem?_eq_some_iff.1 X8.out).1).trans X8.out)
  clear hb
  have ceq := CE.out wC
  go_wp2_with (first
    | (refine wpList_wanted (by first | (go_simp; done) | (simp [Region.wanted, yielded, *]; done)) (wp_load_row 56 _ (by rfl) g4 (by rfl) 56 _ (0, 0) _ (by exact X4.out) Tryz.underlying56 rfl (by kernel_rfl) ?_))
    | (refine wpList_wanted (by first | (go_simp; done) | (simp [Region.wanted, yielded, *]; done)) (wp_load_row 56 _ (by rfl) g8 (by rfl) 56 _ (0, 0) _ (by exact X8.out) Tryz.underlying56 rfl (by kernel_rfl) ?_)))
  refine Calls.mono (FB.out _) ?_
  rintro e wD ⟨rfl, hb⟩
  have B0 := Lib.hid (B0.out.trans (hb.mono B0.out.size))
  clear hb ceq
  go_wp2_with fail
  refine Calls.mono (FV.out _) ?_
  rintro e wE ⟨rfl, hb⟩
  have B0 := Lib.hid (B0.out.trans (hb.mono B0.out.size))
  clear hb
  go_wp2_with fail
  refine Calls.mono (FU.out _) ?_
  rintro e wF ⟨rfl, hb⟩
  have B0 := Lib.hid (B0.out.trans (hb.mono B0.out.size))
  clear hb
  go_wp2_with fail
  refine Calls.mono (FP.out _) ?_
  rintro e wG ⟨rfl, hb⟩
  have B0 := Lib.hid (B0.out.trans (hb.mono B0.out.size))
  clear hb
  go_wp2
  go_ret
  exact ⟨rfl, B0.out⟩

end Go.Proofs.YtajmkkjlhmeolaaGreatDoor
