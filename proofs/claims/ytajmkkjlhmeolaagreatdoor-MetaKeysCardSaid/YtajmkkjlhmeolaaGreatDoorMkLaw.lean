/-
  MetaKeys: the law (the walk is printed by wip/gen/mklaw.py).
-/
import Derived.Test.YtajmkkjlhmeolaaGreatDoorMtApart
import Derived.Test.YtajmkkjlhmeolaaGreatDoorMkReadKey
namespace Go.Proofs.YtajmkkjlhmeolaaGreatDoor
open Go.RowKit Go.Lib

theorem place_agg (o : Option PlaceV) : ∃ (kd : Int) (pb pk : List UInt8) (pq pm : Int), ∀ w e w', PlaceOut o w e w' → e = .returned (.tuple #[.agg #[.int .u8 kd, .string ⟨pb.toArray⟩, .string ⟨pk.toArray⟩, .int .i64 pq, .int .i64 pm], .bool o.isSome]) ∧ Below w.heap.size w w' := by
  cases o with
  | none => exact ⟨0, [], [], 0, 0, fun w e w' h => h⟩
  | some p => exact ⟨p.kind, p.bucket, p.key, p.seq, p.num, fun w e w' h => h⟩

set_option maxHeartbeats 8000000 in
set_option maxRecDepth 100000 in
theorem keys_walk (b k s : List UInt8) (n m : Int) (hb : b.length ≤ 140737488351232) (hk : k.length ≤ 140737488351232) (hs : s.length ≤ 140737488351232) (hn : IntOK n) (hm : IntOK m) (w : World) (hG : GlobK w) :
    Calls Tryz.prog 5 #[.string ⟨b.toArray⟩, .string ⟨k.toArray⟩, .int .i64 n, .int .i64 m, .string ⟨s.toArray⟩] w fun e w' => e = .returned (.bool true) ∧ Below w.heap.size w w' := by
  have HG : Hid (∀ W, Below w.heap.size w W → GlobK W) := fun W hW => hG.later hW
  have HE := Lib.hid (ex_walk w hG)
  clear hG
  obtain ⟨kd, pb, pk, pq, pm, hp⟩ := place_agg (placeOf s)
  obtain ⟨ok, hok⟩ : ∃ x, (placeOf s).isSome = x := ⟨_, rfl⟩
  obtain ⟨rn, hrn⟩ : ∃ x, (readNum s).getD 0 = x := ⟨_, rfl⟩
  obtain ⟨ro, hro⟩ : ∃ x, (readNum s).isSome = x := ⟨_, rfl⟩
  have HR1 : Hid (∀ W, GlobK W → Calls Tryz.prog 11 #[.string ⟨s.toArray⟩] W fun e w' => e = .returned (.tuple #[.agg #[.int .u8 kd, .string ⟨pb.toArray⟩, .string ⟨pk.toArray⟩, .int .i64 pq, .int .i64 pm], .bool ok]) ∧ Below W.heap.size W w') := fun W hW => by
    have := (readKey_any s (by omega) W hW).mono (fun e w' h => hp W e w' h)
    rw [hok] at this
    exact this
  have HR2 : Hid (∀ W, Calls Tryz.prog 17 #[.string ⟨s.toArray⟩] W fun e w' => e = .returned (.tuple #[.agg #[.int .u8 kd, .string ⟨pb.toArray⟩, .string ⟨pk.toArray⟩, .int .i64 pq, .int .i64 pm], .bool ok]) ∧ Below W.heap.size W w') := fun W => by
    have := rReadKey_any s (by omega) W
    rw [rPlaceOf_eq] at this
    have := this.mono (fun e w' h => hp W e w' h)
    rw [hok] at this
    exact this
  have HN1 : Hid (∀ W, GlobK W → Calls Tryz.prog 16 #[.string ⟨s.toArray⟩] W fun e w' => e = .returned (.tuple #[.int .i64 rn, .bool ro]) ∧ Below W.heap.size W w') := fun W hW => by
    have := readNumber_any s W hW.g (by omega)
    unfold NumRdOut at this
    rw [hrn, hro] at this
    exact this
  have HN2 : Hid (∀ W, Calls Tryz.prog 18 #[.string ⟨s.toArray⟩] W fun e w' => e = .returned (.tuple #[.int .i64 rn, .bool ro]) ∧ Below W.heap.size W w') := fun W => by
    have := rReadNumberB s (by omega) W
    unfold NumRdOut at this
    rw [hrn, hro] at this
    exact this
  clear hp hok hrn hro
  obtain ⟨kn, hkn⟩ : ∃ x, numText n = x := ⟨_, rfl⟩
  have H1 := Lib.hid (fun W (h : GlobK W) => number_any n hn W h.g.tz)
  have H2 : Hid (∀ W, Calls Tryz.prog 19 #[.int .i64 n] W (StrOut (numText n) W)) := fun W => by
    refine (rNumber_any n hn W).mono ?_
    rintro e w' ⟨h, rfl⟩
    exact ⟨h, Below.refl _ _⟩
  have H3 := Lib.hid (fun W (h : GlobK W) => bucketKey_any b (by omega) W h)
  have H4 := Lib.hid (fun W => rBucketKeyB b (by omega) W)
  have H5 := Lib.hid (fun W (h : GlobK W) => versionKey_any b k n (by omega) (by omega) hn W h)
  have H6 := Lib.hid (fun W => rVersionKeyB b k n (by omega) (by omega) hn W)
  have H7 := Lib.hid (fun W (h : GlobK W) => uploadKey_any n hn W h.g)
  have H8 := Lib.hid (fun W => rUploadKeyB n hn W)
  have H9 := Lib.hid (fun W (h : GlobK W) => partKey_any n m hn hm W h.g)
  have HA := Lib.hid (fun W => rPartKeyB n m hn hm W)
  have HB := Lib.hid (fun W (h : GlobK W) => blobKey_any n hn W h.g)
  have HC := Lib.hid (fun W => rBlobKeyB n hn W)
  generalize numText n = x1 at H1 H2
  generalize bucketKeyL b = x2 at H3 H4
  generalize versionKeyL b k n = x3 at H5 H6
  generalize keyL [117, 47] n = x4 at H7 H8
  generalize partKeyL n m = x5 at H9 HA
  generalize keyL [100, 47] n = x6 at HB HC
  clear hkn
  go_enter Tryz.func5, Tryz.ntmps5
  go_wp2_with fail
  refine Calls.mono HE.out ?_
  rintro e w1 ⟨rfl, hb1⟩
  have B1 := Lib.hid hb1
  clear hb1
  go_wp2_with fail
  refine Calls.mono (HR1.out _ (HG.out _ B1.out)) ?_
  rintro e w2 ⟨rfl, hb2⟩
  have B2 := Lib.hid (B1.out.trans (hb2.mono B1.out.size))
  clear hb2 B1
  go_wp2_with (refine wpList_store_row (by rfl) 25 _ _ (by rfl) _ _ (by rfl) (by rfl) 25 _ (by exact heap_alloc_new _ _) (by kernel_rfl) (by kernel_rfl) (by kernel_rfl) ?_)
  have BX := Lib.hid (below_one_row _ _ _ _ _ (B2.out.alloc B2.out.size (.cells placeZero 25)) B2.out.size : Below w.heap.size w ((w2.alloc (.cells placeZero 25)).setRow w2.heap.size #[.int .u8 kd, .string ⟨pb.toArray⟩, .string ⟨pk.toArray⟩, .int .i64 pq, .int .i64 pm]))
  have X4 : Hid (((w2.alloc (.cells placeZero 25)).setRow w2.heap.size #[.int .u8 kd, .string ⟨pb.toArray⟩, .string ⟨pk.toArray⟩, .int .i64 pq, .int .i64 pm]).heap[w2.heap.size]? = some (.cells #[.int .u8 kd, .string ⟨pb.toArray⟩, .string ⟨pk.toArray⟩, .int .i64 pq, .int .i64 pm] 25 (0, 0))) := setRow_heap _ _ _ _ _ _ (heap_alloc_new _ _)
  refine Calls.mono (HR2.out _) ?_
  rintro e w5 ⟨rfl, hb5⟩
  have B5 := Lib.hid (BX.out.trans (hb5.mono BX.out.size))
  have X5 := Lib.hid ((hb5.block _ (by simp)).trans X4.out)
  have L5 : Hid (w2.heap.size < w5.heap.size) := (Array.getElem?_eq_some_iff.1 X5.out).1
  clear hb5 BX X4 B2
  generalize w2.heap.size = g4 at X5 L5 ⊢
  clear HE HR1 HR2
  have X6 : ((w5.alloc (.cells placeZero 34)).setRow w5.heap.size #[.int .u8 kd, .string ⟨pb.toArray⟩, .string ⟨pk.toArray⟩, .int .i64 pq, .int .i64 pm]).heap[g4]? = some (.cells #[.int .u8 kd, .string ⟨pb.toArray⟩, .string ⟨pk.toArray⟩, .int .i64 pq, .int .i64 pm] 25 (0, 0)) := (setRow_other _ _ _ _ (by have := L5.out; omega)).trans (((below_alloc (Below.refl _ w5) (Nat.le_refl _) (.cells placeZero 34)).block _ L5.out).trans X5.out)
  have X7 : ((w5.alloc (.cells placeZero 34)).setRow w5.heap.size #[.int .u8 kd, .string ⟨pb.toArray⟩, .string ⟨pk.toArray⟩, .int .i64 pq, .int .i64 pm]).heap[w5.heap.size]? = some (.cells #[.int .u8 kd, .string ⟨pb.toArray⟩, .string ⟨pk.toArray⟩, .int .i64 pq, .int .i64 pm] 34 (0, 0)) := setRow_heap _ _ _ _ _ _ (heap_alloc_new _ _)
  have BX := Lib.hid (below_one_row _ _ _ _ _ (B5.out.alloc B5.out.size (.cells placeZero 34)) B5.out.size : Below w.heap.size w ((w5.alloc (.cells placeZero 34)).setRow w5.heap.size #[.int .u8 kd, .string ⟨pb.toArray⟩, .string ⟨pk.toArray⟩, .int .i64 pq, .int .i64 pm]))
  have P7 : Hid ((fun W : World => W.heap[g4]? = some (.cells #[.int .u8 kd, .string ⟨pb.toArray⟩, .string ⟨pk.toArray⟩, .int .i64 pq, .int .i64 pm] 25 (0, 0)) ∧ W.heap[w5.heap.size]? = some (.cells #[.int .u8 kd, .string ⟨pb.toArray⟩, .string ⟨pk.toArray⟩, .int .i64 pq, .int .i64 pm] 34 (0, 0)) ∧ Below w.heap.size w W) ((w5.alloc (.cells placeZero 34)).setRow w5.heap.size #[.int .u8 kd, .string ⟨pb.toArray⟩, .string ⟨pk.toArray⟩, .int .i64 pq, .int .i64 pm])) := ⟨X6, X7, BX.out⟩
  clear X6 X7 BX X5 L5 B5
  go_wp2_with (refine wpList_store_rowN (by rfl) 34 _ _ (by rfl) _ #[.int .u8 kd, .string ⟨pb.toArray⟩, .string ⟨pk.toArray⟩, .int .i64 pq, .int .i64 pm] (by rfl) (by rfl) 34 _ (by exact heap_alloc_new _ _) (by kernel_rfl) (by kernel_rfl) (by kernel_rfl) (fun W : World => W.heap[g4]? = some (.cells #[.int .u8 kd, .string ⟨pb.toArray⟩, .string ⟨pk.toArray⟩, .int .i64 pq, .int .i64 pm] 25 (0, 0)) ∧ W.heap[w5.heap.size]? = some (.cells #[.int .u8 kd, .string ⟨pb.toArray⟩, .string ⟨pk.toArray⟩, .int .i64 pq, .int .i64 pm] 34 (0, 0)) ∧ Below w.heap.size w W) P7.out ?_
               clear P7
               generalize w5.heap.size = g5
               rintro w6 ⟨X6, X7, BX⟩
               have X6 := Lib.hid X6
               have X7 := Lib.hid X7
               have BX := Lib.hid BX)
  have U6 := X6.out
  refine Calls.mono (HN1.out _ (HG.out _ BX.out)) ?_
  rintro e w7 ⟨rfl, hb7⟩
  have Y6 := Lib.hid ((hb7.block _ (Array.getElem?_eq_some_iff.1 X6.out).1).trans X6.out)
  have Y7 := Lib.hid ((hb7.block _ (Array.getElem?_eq_some_iff.1 X7.out).1).trans X7.out)
  have B7 := Lib.hid (BX.out.trans (hb7.mono BX.out.size))
  clear hb7 X6 X7 BX U6 HN1
  go_wp2_with fail
  refine Calls.mono (HN2.out _) ?_
  rintro e w8 ⟨rfl, hb8⟩
  have Z6 := (hb8.block _ (Array.getElem?_eq_some_iff.1 Y6.out).1).trans Y6.out
  have Z7 := (hb8.block _ (Array.getElem?_eq_some_iff.1 Y7.out).1).trans Y7.out
  have B8 := Lib.hid (B7.out.trans (hb8.mono B7.out.size))
  clear hb8 Y6 Y7 B7 HN2
  have c40 : w8.cell? ⟨g4, 0, none⟩ = some (.int .u8 kd) := by rw [cell_of_heap Z6]; rfl
  have c41 : w8.cell? ⟨g4, 1, none⟩ = some (.string ⟨pb.toArray⟩) := by rw [cell_of_heap Z6]; rfl
  have c42 : w8.cell? ⟨g4, 2, none⟩ = some (.string ⟨pk.toArray⟩) := by rw [cell_of_heap Z6]; rfl
  have c43 : w8.cell? ⟨g4, 3, none⟩ = some (.int .i64 pq) := by rw [cell_of_heap Z6]; rfl
  have c44 : w8.cell? ⟨g4, 4, none⟩ = some (.int .i64 pm) := by rw [cell_of_heap Z6]; rfl
  have c50 : w8.cell? ⟨g5, 0, none⟩ = some (.int .u8 kd) := by rw [cell_of_heap Z7]; rfl
  have c51 : w8.cell? ⟨g5, 1, none⟩ = some (.string ⟨pb.toArray⟩) := by rw [cell_of_heap Z7]; rfl
  have c52 : w8.cell? ⟨g5, 2, none⟩ = some (.string ⟨pk.toArray⟩) := by rw [cell_of_heap Z7]; rfl
  have c53 : w8.cell? ⟨g5, 3, none⟩ = some (.int .i64 pq) := by rw [cell_of_heap Z7]; rfl
  have c54 : w8.cell? ⟨g5, 4, none⟩ = some (.int .i64 pm) := by rw [cell_of_heap Z7]; rfl
  clear Z6 Z7
  go_wp2_with fail
  refine Calls.mono (H1.out _ (HG.out _ B8.out)) ?_
  rintro e w9 ⟨rfl, hb9⟩
  have B9 := Lib.hid (B8.out.trans (hb9.mono B8.out.size))
  clear hb9 B8 H1 c40 c41 c42 c43 c44 c50 c51 c52 c53 c54
  go_wp2_with fail
  refine Calls.mono (H2.out _) ?_
  rintro e w10 ⟨rfl, hb10⟩
  have B10 := Lib.hid (B9.out.trans (hb10.mono B9.out.size))
  clear hb10 B9 H2
  go_wp2_with fail
  refine Calls.mono (H3.out _ (HG.out _ B10.out)) ?_
  rintro e w11 ⟨rfl, hb11⟩
  have B11 := Lib.hid (B10.out.trans (hb11.mono B10.out.size))
  clear hb11 B10 H3
  go_wp2_with fail
  refine Calls.mono (H4.out _) ?_
  rintro e w12 ⟨rfl, hb12⟩
  have B12 := Lib.hid (B11.out.trans (hb12.mono B11.out.size))
  clear hb12 B11 H4
  go_wp2_with fail
  refine Calls.mono (H5.out _ (HG.out _ B12.out)) ?_
  rintro e w13 ⟨rfl, hb13⟩
  have B13 := Lib.hid (B12.out.trans (hb13.mono B12.out.size))
  clear hb13 B12 H5
  go_wp2_with fail
  refine Calls.mono (H6.out _) ?_
  rintro e w14 ⟨rfl, hb14⟩
  have B14 := Lib.hid (B13.out.trans (hb14.mono B13.out.size))
  clear hb14 B13 H6
  go_wp2_with fail
  refine Calls.mono (H7.out _ (HG.out _ B14.out)) ?_
  rintro e w15 ⟨rfl, hb15⟩
  have B15 := Lib.hid (B14.out.trans (hb15.mono B14.out.size))
  clear hb15 B14 H7
  go_wp2_with fail
  refine Calls.mono (H8.out _) ?_
  rintro e w16 ⟨rfl, hb16⟩
  have B16 := Lib.hid (B15.out.trans (hb16.mono B15.out.size))
  clear hb16 B15 H8
  go_wp2_with fail
  refine Calls.mono (H9.out _ (HG.out _ B16.out)) ?_
  rintro e w17 ⟨rfl, hb17⟩
  have B17 := Lib.hid (B16.out.trans (hb17.mono B16.out.size))
  clear hb17 B16 H9
  go_wp2_with fail
  refine Calls.mono (HA.out _) ?_
  rintro e w18 ⟨rfl, hb18⟩
  have B18 := Lib.hid (B17.out.trans (hb18.mono B17.out.size))
  clear hb18 B17 HA
  go_wp2_with fail
  refine Calls.mono (HB.out _ (HG.out _ B18.out)) ?_
  rintro e w19 ⟨rfl, hb19⟩
  have B19 := Lib.hid (B18.out.trans (hb19.mono B18.out.size))
  clear hb19 B18 HB
  go_wp2_with fail
  refine Calls.mono (HC.out _) ?_
  rintro e w20 ⟨rfl, hb20⟩
  have B20 := Lib.hid (B19.out.trans (hb20.mono B19.out.size))
  clear hb20 B19 HC
  go_wp2
  go_ret
  exact ⟨rfl, B20.out⟩

end Go.Proofs.YtajmkkjlhmeolaaGreatDoor
