/-
  MetaApart: the law (the walk is printed by wip/gen/mtapart.py).
-/
import Derived.Test.YtajmkkjlhmeolaaGreatDoorSm13
import Derived.Test.YtajmkkjlhmeolaaGreatDoorSm18
namespace Go.Proofs.YtajmkkjlhmeolaaGreatDoor
open Go.RowKit Go.Lib

theorem zeroCells : placeZero.size = 5 := rfl
theorem list_cases (l : List UInt8) : l = [] ∨ l ≠ [] := by cases l with | nil => exact .inl rfl | cons c r => exact .inr (by simp)
theorem lbeq (x y : List UInt8) : (x == y) = decide (x = y) := by
  rw [Bool.eq_iff_iff, beq_iff_eq, decide_eq_true_iff]
theorem lbne (x y : List UInt8) : (x != y) = !decide (x = y) := by rw [bne, lbeq]

/-- a row is stored; the world behind it by its facts alone -/
theorem wpList_store_rowN {P : Program} {ops : Array Oper} {rest : List Oper} {o : Oper} {a : Act} {w : World} {Q : Exit → Act → World → Prop} (hgd : o.guard = none) (ty : TypeId) (x y : Operand) (ho : o.op = .store ty x y)
    (g : Nat) (cells : Array Value) (hx : a.eval x = .pointer (some ⟨g, 0, none⟩)) (hy : a.eval y = .agg cells)
    (t : TypeId) (old : Array Value) (hg : w.heap[g]? = some (.cells old t (0, 0))) (hi : (P.info? ty).map (·.size) = some cells.size)
    (hold : old.size = cells.size) (h1 : cells.all (·.oneCell') = true) (p : World → Prop) (hp : p (w.setRow g cells))
    (h : ∀ W, p W → wpList P ops Q rest (a.put o.dst undef) W) : wpList P ops Q (o :: rest) a w :=
  wpList_store_row hgd ty x y ho g cells hx hy t old hg hi hold h1 (h _ hp)

set_option maxHeartbeats 8000000 in
set_option maxRecDepth 100000 in
theorem apart_walk (b k b' k' : List UInt8) (n n' : Int) (hb : b.length ≤ 140737488351232) (hk : k.length ≤ 140737488351232) (hb' : b'.length ≤ 140737488351232) (hk' : k'.length ≤ 140737488351232) (hn : IntOK n) (hn' : IntOK n') (w : World) (hG : GlobK w) :
    Calls Tryz.prog 3 #[.string ⟨b.toArray⟩, .string ⟨k.toArray⟩, .int .i64 n, .string ⟨b'.toArray⟩, .string ⟨k'.toArray⟩, .int .i64 n'] w fun e w' => e = .returned (.bool true) ∧ Below w.heap.size w w' := by
  have HG : Hid (∀ W, Below w.heap.size w W → GlobK W) := fun W hW => hG.later hW
  have HE := Lib.hid (ex_walk w hG)
  have HA := Lib.hid (fun W (h : GlobK W) => versionKey_any b k n (by omega) (by omega) hn W h)
  have HB := Lib.hid (fun W (h : GlobK W) => versionKey_any b' k' n' (by omega) (by omega) hn' W h)
  clear hG
  obtain ⟨va, hva⟩ : ∃ va, versionKeyL b k n = va := ⟨_, rfl⟩
  obtain ⟨vb, hvb⟩ : ∃ vb, versionKeyL b' k' n' = vb := ⟨_, rfl⟩
  rw [hva] at HA
  rw [hvb] at HB
  rcases list_cases va with rfl | hva0
  · clear hva hvb HB
    have HB := Lib.hid (fun W (h : GlobK W) => versionKey_any b' k' n' (by omega) (by omega) hn' W h)
    generalize versionKeyL b' k' n' = vb at HB
    go_enter Tryz.func3, Tryz.ntmps3
    go_wp2_with fail
    refine Calls.mono HE.out ?_
    rintro e w1 ⟨rfl, hb1⟩
    have B1 := Lib.hid hb1
    clear hb1
    go_wp2_with fail
    refine Calls.mono (HA.out _ (HG.out _ B1.out)) ?_
    rintro e w2 ⟨rfl, hb2⟩
    have B2 := Lib.hid (B1.out.trans (hb2.mono B1.out.size))
    clear hb2 B1
    go_wp2_with fail
    refine Calls.mono (HB.out _ (HG.out _ B2.out)) ?_
    rintro e w3 ⟨rfl, hb3⟩
    have B3 := Lib.hid (B2.out.trans (hb3.mono B2.out.size))
    clear hb3 B2
    go_wp2
    go_ret
    exact ⟨rfl, B3.out⟩
  · rcases list_cases vb with rfl | hvb0
    · clear hva hvb
      have y0 : (va == []) = false := by rw [lbeq]; simp [hva0]
      have z0 : va.isEmpty = false := by cases va with | nil => exact absurd rfl hva0 | cons _ _ => rfl
      clear hva0
      go_enter Tryz.func3, Tryz.ntmps3
      go_wp2_with fail
      refine Calls.mono HE.out ?_
      rintro e w1 ⟨rfl, hb1⟩
      have B1 := Lib.hid hb1
      clear hb1
      go_wp2_with fail
      refine Calls.mono (HA.out _ (HG.out _ B1.out)) ?_
      rintro e w2 ⟨rfl, hb2⟩
      have B2 := Lib.hid (B1.out.trans (hb2.mono B1.out.size))
      clear hb2 B1
      go_wp2_with fail
      refine Calls.mono (HB.out _ (HG.out _ B2.out)) ?_
      rintro e w3 ⟨rfl, hb3⟩
      have B3 := Lib.hid (B2.out.trans (hb3.mono B2.out.size))
      clear hb3 B2
      go_wp2
      go_ret
      exact ⟨rfl, B3.out⟩
    · have ok := version_ok (b := b) (k := k) (n := n) (by rw [hva]; exact hva0)
      have ok' := version_ok (b := b') (k := k') (n := n') (by rw [hvb]; exact hvb0)
      have hl := version_len ok
      have hl' := version_len ok'
      have pa := version_place ok
      have pb := version_place ok'
      have inj := version_inj ok ok'
      rw [hva] at hl pa inj
      rw [hvb] at hl' pb inj
      have HR1 : Hid (∀ W, GlobK W → Calls Tryz.prog 11 #[.string ⟨va.toArray⟩] W fun e w' => e = .returned (.tuple #[.agg #[.int .u8 118, .string ⟨b.toArray⟩, .string ⟨k.toArray⟩, .int .i64 n, .int .i64 0], .bool true]) ∧ Below W.heap.size W w') := fun W hW => by
        have := readKey_any va (by omega) W hW
        rw [pa] at this
        exact this
      have HR2 : Hid (∀ W, GlobK W → Calls Tryz.prog 11 #[.string ⟨vb.toArray⟩] W fun e w' => e = .returned (.tuple #[.agg #[.int .u8 118, .string ⟨b'.toArray⟩, .string ⟨k'.toArray⟩, .int .i64 n', .int .i64 0], .bool true]) ∧ Below W.heap.size W w') := fun W hW => by
        have := readKey_any vb (by omega) W hW
        rw [pb] at this
        exact this
      have HD1 := Lib.hid (fun W (h : GlobK W) => blobKey_any n hn W h.g)
      have HD2 := Lib.hid (fun W (h : GlobK W) => blobKey_any n' hn' W h.g)
      have HU := Lib.hid (fun W (h : GlobK W) => uploadKey_any n hn W h.g)
      have HK1 := Lib.hid (fun W (h : GlobK W) => bucketKey_any b (by omega) W h)
      have HK2 := Lib.hid (fun W (h : GlobK W) => bucketKey_any b' (by omega) W h)
      have hdu := key_ne ok.n
      have hdi := fun h => key_inj (hd := [100, 47]) ok.n ok'.n h
      have hki := fun h => bucketKey_inj ok.b ok'.b h
      have hdj : n = n' → keyL [100, 47] n = keyL [100, 47] n' := fun h => by rw [h]
      have hkj : b = b' → bucketKeyL b = bucketKeyL b' := fun h => by rw [h]
      generalize keyL [100, 47] n = d1 at HD1 hdu hdi hdj
      generalize keyL [100, 47] n' = d2 at HD2 hdi hdj
      generalize keyL [117, 47] n = u1 at HU hdu
      generalize bucketKeyL b = k1 at HK1 hki hkj
      generalize bucketKeyL b' = k2 at HK2 hki hkj
      have injr : b = b' ∧ k = k' ∧ n = n' → va = vb := by
        rintro ⟨rfl, rfl, rfl⟩
        rw [← hva, hvb]
      clear pa pb hva hvb
      -- what is asked, as Booleans
      obtain ⟨sb, hsb⟩ : ∃ x : Bool, decide (b = b') = x := ⟨_, rfl⟩
      obtain ⟨sk, hsk⟩ : ∃ x : Bool, decide (k = k') = x := ⟨_, rfl⟩
      obtain ⟨sn, hsn⟩ : ∃ x : Bool, decide (n = n') = x := ⟨_, rfl⟩
      have y1 : (b == b') = sb := by rw [lbeq, hsb]
      have y2 : (k == k') = sk := by rw [lbeq, hsk]
      have y3 : (n == n') = sn := by rw [Bool.eq_iff_iff, beq_iff_eq, ← hsn, decide_eq_true_iff]
      have y4 : (va == vb) = (sb && sk && sn) := by
        rw [lbeq, ← hsb, ← hsk, ← hsn, Bool.eq_iff_iff]
        simp only [decide_eq_true_iff, Bool.and_eq_true]
        exact ⟨fun h => by obtain ⟨a, b, c⟩ := inj h; exact ⟨⟨a, b⟩, c⟩, fun h => injr ⟨h.1.1, h.1.2, h.2⟩⟩
      have y5 : (d1 == d2) = sn := by
        rw [lbeq, ← hsn, Bool.eq_iff_iff]
        simp only [decide_eq_true_iff]
        exact ⟨hdi, hdj⟩
      have y6 : (k1 == k2) = sb := by
        rw [lbeq, ← hsb, Bool.eq_iff_iff]
        simp only [decide_eq_true_iff]
        exact ⟨hki, hkj⟩
      have y7 : (d1 != u1) = true := by rw [lbne]; simp [hdu]
      have y7' : (d1 == u1) = false := by rw [lbeq]; simp [hdu]
      have y8 : ¬ ((200 : Int) < (va.length : Int)) := by omega
      have y0 : (va == []) = false := by rw [lbeq]; simp [hva0]
      have y0' : (vb == []) = false := by rw [lbeq]; simp [hvb0]
      have z0 : va.isEmpty = false := by cases va with | nil => exact absurd rfl hva0 | cons _ _ => rfl
      have z0' : vb.isEmpty = false := by cases vb with | nil => exact absurd rfl hvb0 | cons _ _ => rfl
      have y9 : decide ((⟨118, b, k, n, 0⟩ : PlaceV) = ⟨118, b', k', n', 0⟩) = (sb && sk && sn) := by
        rw [← hsb, ← hsk, ← hsn, Bool.eq_iff_iff]
        simp [and_assoc]
      have HEQ := Lib.hid (fun W => eql_place ⟨118, b, k, n, 0⟩ ⟨118, b', k', n', 0⟩ W)
      rw [y9] at HEQ
      clear hva0 hvb0 inj injr hdi hdj hki hkj hdu hsb hsk hsn ok ok' y9
      go_enter Tryz.func3, Tryz.ntmps3
      go_wp2_with fail
      refine Calls.mono HE.out ?_
      rintro e w1 ⟨rfl, hb1⟩
      have B1 := Lib.hid hb1
      clear hb1
      go_wp2_with fail
      refine Calls.mono (HA.out _ (HG.out _ B1.out)) ?_
      rintro e w2 ⟨rfl, hb2⟩
      have B2 := Lib.hid (B1.out.trans (hb2.mono B1.out.size))
      clear hb2 B1
      go_wp2_with fail
      refine Calls.mono (HB.out _ (HG.out _ B2.out)) ?_
      rintro e w3 ⟨rfl, hb3⟩
      have B3 := Lib.hid (B2.out.trans (hb3.mono B2.out.size))
      clear hb3 B2
      go_wp2_with fail
      refine Calls.mono (HR1.out _ (HG.out _ B3.out)) ?_
      rintro e w4 ⟨rfl, hb4⟩
      have B4 := Lib.hid (B3.out.trans (hb4.mono B3.out.size))
      clear hb4 B3
      go_wp2_with (refine wpList_store_row (by rfl) 25 _ _ (by rfl) _ _ (by rfl) (by rfl) 25 _ (by exact heap_alloc_new _ _) (by kernel_rfl) (by kernel_rfl) (by kernel_rfl) ?_)
      have BX := Lib.hid (below_one_row _ _ _ _ _ (B4.out.alloc B4.out.size (.cells placeZero 25)) B4.out.size : Below w.heap.size w ((w4.alloc (.cells placeZero 25)).setRow w4.heap.size #[.int .u8 118, .string ⟨b.toArray⟩, .string ⟨k.toArray⟩, .int .i64 n, .int .i64 0]))
      have X4 : Hid (((w4.alloc (.cells placeZero 25)).setRow w4.heap.size #[.int .u8 118, .string ⟨b.toArray⟩, .string ⟨k.toArray⟩, .int .i64 n, .int .i64 0]).heap[w4.heap.size]? = some (.cells #[.int .u8 118, .string ⟨b.toArray⟩, .string ⟨k.toArray⟩, .int .i64 n, .int .i64 0] 25 (0, 0))) := setRow_heap _ _ _ _ _ _ (heap_alloc_new _ _)
      refine Calls.mono (HR2.out _ (HG.out _ BX.out)) ?_
      rintro e w5 ⟨rfl, hb5⟩
      have B5 := Lib.hid (BX.out.trans (hb5.mono BX.out.size))
      have X5 := Lib.hid ((hb5.block _ (by simp)).trans X4.out)
      have L5 : Hid (w4.heap.size < w5.heap.size) := (Array.getElem?_eq_some_iff.1 X5.out).1
      clear hb5 BX X4 B4
      generalize w4.heap.size = g4 at X5 L5 ⊢
      clear HE HA HB HR1 HR2
      have X6 : ((w5.alloc (.cells placeZero 25)).setRow w5.heap.size #[.int .u8 118, .string ⟨b'.toArray⟩, .string ⟨k'.toArray⟩, .int .i64 n', .int .i64 0]).heap[g4]? = some (.cells #[.int .u8 118, .string ⟨b.toArray⟩, .string ⟨k.toArray⟩, .int .i64 n, .int .i64 0] 25 (0, 0)) := (setRow_other _ _ _ _ (by have := L5.out; omega)).trans (((below_alloc (Below.refl _ w5) (Nat.le_refl _) (.cells placeZero 25)).block _ L5.out).trans X5.out)
      have X7 : ((w5.alloc (.cells placeZero 25)).setRow w5.heap.size #[.int .u8 118, .string ⟨b'.toArray⟩, .string ⟨k'.toArray⟩, .int .i64 n', .int .i64 0]).heap[w5.heap.size]? = some (.cells #[.int .u8 118, .string ⟨b'.toArray⟩, .string ⟨k'.toArray⟩, .int .i64 n', .int .i64 0] 25 (0, 0)) := setRow_heap _ _ _ _ _ _ (heap_alloc_new _ _)
      have BX := Lib.hid (below_one_row _ _ _ _ _ (B5.out.alloc B5.out.size (.cells placeZero 25)) B5.out.size : Below w.heap.size w ((w5.alloc (.cells placeZero 25)).setRow w5.heap.size #[.int .u8 118, .string ⟨b'.toArray⟩, .string ⟨k'.toArray⟩, .int .i64 n', .int .i64 0]))
      have P7 : Hid ((fun W : World => W.heap[g4]? = some (.cells #[.int .u8 118, .string ⟨b.toArray⟩, .string ⟨k.toArray⟩, .int .i64 n, .int .i64 0] 25 (0, 0)) ∧ W.heap[w5.heap.size]? = some (.cells #[.int .u8 118, .string ⟨b'.toArray⟩, .string ⟨k'.toArray⟩, .int .i64 n', .int .i64 0] 25 (0, 0)) ∧ Below w.heap.size w W) ((w5.alloc (.cells placeZero 25)).setRow w5.heap.size #[.int .u8 118, .string ⟨b'.toArray⟩, .string ⟨k'.toArray⟩, .int .i64 n', .int .i64 0])) := ⟨X6, X7, BX.out⟩
      clear X6 X7 BX X5 L5 B5
      rcases (by cases sb <;> cases sk <;> cases sn <;> simp : sb = false ∨ (sb = true ∧ sk = false) ∨ (sb = true ∧ sk = true ∧ sn = false) ∨ (sb = true ∧ sk = true ∧ sn = true)) with rfl | ⟨rfl, rfl⟩ | ⟨rfl, rfl, rfl⟩ | ⟨rfl, rfl, rfl⟩
      any_goals (simp only [Bool.and_true, Bool.true_and, Bool.false_and, Bool.and_false, Bool.and_self] at y4 HEQ)
      all_goals
        go_wp2_with (first
          | (refine wpList_store_rowN (by rfl) 25 _ _ (by rfl) _ #[.int .u8 118, .string ⟨b'.toArray⟩, .string ⟨k'.toArray⟩, .int .i64 n', .int .i64 0] (by rfl) (by rfl) 25 _ (by exact heap_alloc_new _ _) (by kernel_rfl) (by kernel_rfl) (by kernel_rfl) (fun W : World => W.heap[g4]? = some (.cells #[.int .u8 118, .string ⟨b.toArray⟩, .string ⟨k.toArray⟩, .int .i64 n, .int .i64 0] 25 (0, 0)) ∧ W.heap[w5.heap.size]? = some (.cells #[.int .u8 118, .string ⟨b'.toArray⟩, .string ⟨k'.toArray⟩, .int .i64 n', .int .i64 0] 25 (0, 0)) ∧ Below w.heap.size w W) P7.out ?_
             clear P7
             generalize w5.heap.size = g5
             rintro W ⟨X6, X7, BX⟩
             have c1 : W.cell? ⟨g4, 1, none⟩ = some (.string ⟨b.toArray⟩) := by rw [cell_of_heap X6]; rfl
             have c2 : W.cell? ⟨g4, 2, none⟩ = some (.string ⟨k.toArray⟩) := by rw [cell_of_heap X6]; rfl
             have c3 : W.cell? ⟨g4, 3, none⟩ = some (.int .i64 n) := by rw [cell_of_heap X6]; rfl
             have X6 := Lib.hid X6
             have X7 := Lib.hid X7
             have BX := Lib.hid BX
             have hEQ := HEQ.out W
             simp only [PlaceV.ag] at hEQ)
          | (refine wpList_wanted (by first | (go_simp; done) | (simp [Region.wanted, yielded, *]; done)) (wp_load_row 25 _ (by rfl) g4 (by rfl) 25 _ (0, 0) _ (by exact X6.out) Tryz.underlying25 rfl (by kernel_rfl) ?_))
          | (refine wpList_wanted (by first | (go_simp; done) | (simp [Region.wanted, yielded, *]; done)) (wp_load_row 25 _ (by rfl) g5 (by rfl) 25 _ (0, 0) _ (by exact X7.out) Tryz.underlying25 rfl (by kernel_rfl) ?_)))
        refine Calls.mono (HD1.out _ (HG.out _ BX.out)) ?_
        rintro e v10 ⟨rfl, hb10⟩
        have B10 := Lib.hid (BX.out.trans (hb10.mono BX.out.size))
        clear hb10
        go_wp2_with fail
        refine Calls.mono (HU.out _ (HG.out _ B10.out)) ?_
        rintro e v11 ⟨rfl, hb11⟩
        have B11 := Lib.hid (B10.out.trans (hb11.mono B10.out.size))
        clear hb11
        go_wp2_with fail
        refine Calls.mono (HD1.out _ (HG.out _ B11.out)) ?_
        rintro e v12 ⟨rfl, hb12⟩
        have B12 := Lib.hid (B11.out.trans (hb12.mono B11.out.size))
        clear hb12
        go_wp2_with fail
        refine Calls.mono (HD2.out _ (HG.out _ B12.out)) ?_
        rintro e v13 ⟨rfl, hb13⟩
        have B13 := Lib.hid (B12.out.trans (hb13.mono B12.out.size))
        clear hb13
        go_wp2_with fail
        refine Calls.mono (HK1.out _ (HG.out _ B13.out)) ?_
        rintro e v14 ⟨rfl, hb14⟩
        have B14 := Lib.hid (B13.out.trans (hb14.mono B13.out.size))
        clear hb14
        go_wp2_with fail
        refine Calls.mono (HK2.out _ (HG.out _ B14.out)) ?_
        rintro e v15 ⟨rfl, hb15⟩
        have B15 := Lib.hid (B14.out.trans (hb15.mono B14.out.size))
        clear hb15
        go_wp2
        go_ret
        exact ⟨rfl, B15.out⟩

      end Go.Proofs.YtajmkkjlhmeolaaGreatDoor
