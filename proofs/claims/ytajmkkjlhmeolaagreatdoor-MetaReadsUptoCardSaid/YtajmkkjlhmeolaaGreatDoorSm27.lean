/-
  SEVERAL SMALL TEXTS IN ONE.
-/
import Derived.Test.YtajmkkjlhmeolaaGreatDoorSm25
import Derived.Test.YtajmkkjlhmeolaaGreatDoorMkBucket
import Derived.Test.YtajmkkjlhmeolaaGreatDoorMkPlaceP
import Derived.Test.YtajmkkjlhmeolaaGreatDoorRxNum
import Derived.Test.YtajmkkjlhmeolaaGreatDoorMfRef
/-
  storehouseref19: the keys of buckets and versions.
-/
namespace Go.Proofs.YtajmkkjlhmeolaaGreatDoor
open Go.RowKit Go.Lib

set_option maxHeartbeats 1000000 in
theorem rBucketKey_any (b : List UInt8) (hb : b.length ≤ 140737488355328) (w : World) : Calls Tryz.prog 20 #[.string ⟨b.toArray⟩] w fun e w' => e = .returned (.string ⟨(bucketKeyL b).toArray⟩) ∧ w = w' := by
  have HB := Lib.hid (rBucket_any b hb w)
  obtain ⟨R, hR⟩ : ∃ R, Hid (bucketKeyL b = R) := ⟨_, rfl⟩
  rw [hR.out]
  cases hq : bucketB b with
  | false =>
    rw [hq] at HB
    have HF : Hid (R = []) := by show _ = _; rw [← hR.out]; unfold bucketKeyL; rw [hq]; rfl
    clear hq
    go_enter Tryz.func20, Tryz.ntmps20
    go_wp2_with fail
    refine HB.out.mono ?_
    rintro e w1 ⟨rfl, rfl⟩
    go_wp2
    go_ret
    rw [HF.out]
    exact ⟨rfl, rfl⟩
  | true =>
    rw [hq] at HB
    have HF : Hid (R = [98, 47] ++ b) := by show _ = _; rw [← hR.out]; unfold bucketKeyL; rw [if_pos hq]
    have hov : ¬ 9223372036854775807 < 2 + b.length := by omega
    clear hq
    go_enter Tryz.func20, Tryz.ntmps20
    go_wp2_with fail
    refine HB.out.mono ?_
    rintro e w1 ⟨rfl, rfl⟩
    go_wp2
    go_ret
    exact ⟨ret_str (by rw [HF.out, ← str_app]), rfl⟩

set_option maxHeartbeats 2000000 in
theorem rVersionKey_any (b k : List UInt8) (n : Int) (hb : b.length ≤ 140737488355328) (hk : k.length ≤ 140737488355328) (hn : IntOK n) (w : World) :
    Calls Tryz.prog 21 #[.string ⟨b.toArray⟩, .string ⟨k.toArray⟩, .int .i64 n] w fun e w' => e = .returned (.string ⟨(versionKeyL b k n).toArray⟩) ∧ w = w' := by
  have HB := Lib.hid (rBucket_any b hb w)
  have HS := Lib.hid (rSeq_any n w)
  have HN := Lib.hid (rNumber_any n hn w)
  obtain ⟨R, hR⟩ : ∃ R, Hid (versionKeyL b k n = R) := ⟨_, rfl⟩
  rw [hR.out]
  cases hq : bucketB b with
  | false =>
    rw [hq] at HB
    have HF : Hid (R = []) := by show _ = _; rw [← hR.out]; unfold versionKeyL; rw [if_neg (by rw [hq]; simp)]
    clear hq HS HN
    go_enter Tryz.func21, Tryz.ntmps21
    go_wp2_with fail
    refine HB.out.mono ?_
    rintro e w1 ⟨rfl, rfl⟩
    go_wp2
    go_ret
    rw [HF.out]
    exact ⟨rfl, rfl⟩
  | true =>
    rw [hq] at HB
    have hbl := (bucket_bytes hq).1
    by_cases hk1 : k.length < 1
    · have HF : Hid (R = []) := by show _ = _; rw [← hR.out]; unfold versionKeyL; rw [if_neg (by omega)]
      have hk1' : (k.length : Int) < 1 := by omega
      clear hq HS HN
      go_enter Tryz.func21, Tryz.ntmps21
      go_wp2_with fail
      refine HB.out.mono ?_
      rintro e w1 ⟨rfl, rfl⟩
      go_wp2
      go_ret
      rw [HF.out]
      exact ⟨rfl, rfl⟩
    · have hk1' : (1 : Int) ≤ (k.length : Int) := by omega
      by_cases hk2 : 100 < k.length
      · have HF : Hid (R = []) := by show _ = _; rw [← hR.out]; unfold versionKeyL; rw [if_neg (by omega)]
        have hk2' : (100 : Int) < (k.length : Int) := by omega
        clear hq hk1 HS HN
        go_enter Tryz.func21, Tryz.ntmps21
        go_wp2_with fail
        refine HB.out.mono ?_
        rintro e w1 ⟨rfl, rfl⟩
        go_wp2
        go_ret
        rw [HF.out]
        exact ⟨rfl, rfl⟩
      · have hk2' : (k.length : Int) ≤ 100 := by omega
        by_cases hr : 1 ≤ n ∧ n ≤ 9007199254740991
        · have hl := (numText_in (n := n) ⟨by omega, hr.2⟩).1
          have HF : Hid (R = [118, 47] ++ b ++ [47] ++ k ++ [47] ++ numText n) := by
            show _ = _; rw [← hR.out]; unfold versionKeyL; rw [if_pos ⟨hq, by omega, by omega⟩]; unfold keyL; rw [if_pos hr]
          rw [decide_eq_true hr] at HS
          generalize numText n = t at HN hl HF
          have n1 : ¬ 9223372036854775807 < 2 + b.length := by omega
          have n2 : ¬ 9223372036854775807 < 2 + b.length + 1 := by omega
          have n3 : ¬ 9223372036854775807 < 2 + b.length + 1 + k.length := by omega
          have n4 : ¬ 9223372036854775807 < 2 + b.length + 1 + k.length + 1 := by omega
          have n5 : ¬ 9223372036854775807 < 2 + b.length + 1 + k.length + 1 + t.length := by omega
          clear hq hk1 hk2 hr
          go_enter Tryz.func21, Tryz.ntmps21
          go_wp2_with fail
          refine HB.out.mono ?_
          rintro e w1 ⟨rfl, rfl⟩
          go_wp2_with fail
          refine HS.out.mono ?_
          rintro e w1 ⟨rfl, rfl⟩
          go_wp2_with fail
          refine HN.out.mono ?_
          rintro e w1 ⟨rfl, rfl⟩
          go_wp2
          go_ret
          refine ⟨ret_str ?_, rfl⟩
          rw [HF.out]
          simp only [← str_app]
        · have HF : Hid (R = []) := by
            show _ = _; rw [← hR.out]; unfold versionKeyL keyL; rw [if_neg hr]; split <;> rfl
          rw [decide_eq_false hr] at HS
          clear hq hk1 hk2 hr HN
          go_enter Tryz.func21, Tryz.ntmps21
          go_wp2_with fail
          refine HB.out.mono ?_
          rintro e w1 ⟨rfl, rfl⟩
          go_wp2_with fail
          refine HS.out.mono ?_
          rintro e w1 ⟨rfl, rfl⟩
          go_wp2
          go_ret
          rw [HF.out]
          exact ⟨rfl, rfl⟩

end Go.Proofs.YtajmkkjlhmeolaaGreatDoor

/-
  storehouseref19.PartKey.
-/
namespace Go.Proofs.YtajmkkjlhmeolaaGreatDoor
open Go.RowKit Go.Lib Go.PlainAid

theorem tendig_text : ∀ r : Nat, r < 10 → (⟨#[48, 49, 50, 51, 52, 53, 54, 55, 56, 57]⟩ : ByteArray).extract r (r + 1) = ⟨(itoa (r : Int)).toArray⟩ := by
  intro r hr
  rw [itoa1 r hr]
  have : r = 0 ∨ r = 1 ∨ r = 2 ∨ r = 3 ∨ r = 4 ∨ r = 5 ∨ r = 6 ∨ r = 7 ∨ r = 8 ∨ r = 9 := by omega
  rcases this with rfl | rfl | rfl | rfl | rfl | rfl | rfl | rfl | rfl | rfl <;> rfl

set_option maxHeartbeats 2000000 in
set_option maxRecDepth 100000 in
theorem rPartKey_any (n m : Int) (hn : IntOK n) (hm : IntOK m) (w : World) : Calls Tryz.prog 24 #[.int .i64 n, .int .i64 m] w fun e w' => e = .returned (.string ⟨(partKeyL n m).toArray⟩) ∧ ∃ q, w' = w.drewN q := by
  have HS := Lib.hid (rSeq_any n w)
  have HN : Hid (∀ W, Calls Tryz.prog 19 #[.int .i64 n] W fun e w' => e = .returned (.string ⟨(numText n).toArray⟩) ∧ ∃ q, w' = W.drewN q) := fun W => (rNumber_any n hn W).mono fun e w' h => ⟨h.1, 0, h.2.symm⟩
  obtain ⟨R, hR⟩ : ∃ R, Hid (partKeyL n m = R) := ⟨_, rfl⟩
  rw [hR.out]
  by_cases hr : 1 ≤ n ∧ n ≤ 9007199254740991
  · rw [decide_eq_true hr] at HS
    by_cases h1 : m < 1
    · have HF : Hid (R = []) := by show _ = _; rw [← hR.out]; unfold partKeyL; rw [if_neg (by omega)]
      clear hr HN
      go_enter Tryz.func24, Tryz.ntmps24
      go_wp2_with fail
      refine HS.out.mono ?_
      rintro e w1 ⟨rfl, rfl⟩
      go_wp2
      go_ret
      rw [HF.out]
      exact ⟨rfl, 0, rfl⟩
    · by_cases h20 : 20 < m
      · have HF : Hid (R = []) := by show _ = _; rw [← hR.out]; unfold partKeyL; rw [if_neg (by omega)]
        have h1' : 1 ≤ m := by omega
        clear hr HN
        go_enter Tryz.func24, Tryz.ntmps24
        go_wp2_with fail
        refine HS.out.mono ?_
        rintro e w1 ⟨rfl, rfl⟩
        go_wp2
        go_ret
        rw [HF.out]
        exact ⟨rfl, 0, rfl⟩
      · have HF : Hid (R = [112, 47] ++ numText n ++ [47] ++ itoa (m / 10) ++ itoa (m % 10)) := by
          show _ = _; rw [← hR.out]; unfold partKeyL; rw [if_pos ⟨hr, by omega, by omega⟩]
        obtain ⟨k, rfl⟩ := Int.eq_ofNat_of_zero_le (show 0 ≤ m by omega)
        have hl := (numText_in (n := n) ⟨by omega, hr.2⟩).1
        generalize numText n = t at HN hl HF
        have f1 : (k : Int).tdiv 10 = ((k / 10 : Nat) : Int) := by rw [Int.tdiv_eq_ediv_of_nonneg (by omega)]; omega
        have f2 : (k : Int).tmod 10 = ((k % 10 : Nat) : Int) := by rw [Int.tmod_eq_emod_of_nonneg (by omega)]; omega
        have e1 : (k : Int) / 10 = ((k / 10 : Nat) : Int) := by omega
        have e2 : (k : Int) % 10 = ((k % 10 : Nat) : Int) := by omega
        rw [e1, e2] at HF
        obtain ⟨a, ha⟩ : ∃ a : Nat, a = k / 10 := ⟨_, rfl⟩
        obtain ⟨b, hb⟩ : ∃ b : Nat, b = k % 10 := ⟨_, rfl⟩
        have ha10 : a < 10 := by omega
        have hb10 : b < 10 := by omega
        have h1' : (1 : Int) ≤ (k : Int) := by omega
        have h20' : (k : Int) ≤ 20 := by omega
        rw [← ha] at f1 HF
        rw [← hb] at f2 HF
        have ta := Lib.hid (tendig_text a ha10)
        have tb := Lib.hid (tendig_text b hb10)
        have w1 : IntKind.i64.wrap (a : Int) = (a : Int) := by go_arith
        have w2 : IntKind.i64.wrap (b : Int) = (b : Int) := by go_arith
        have w3 : IntKind.i64.wrap ((a : Int) + 1) = (a : Int) + 1 := by go_arith
        have w4 : IntKind.i64.wrap ((b : Int) + 1) = (b : Int) + 1 := by go_arith
        have g1 : (0 : Int) ≤ (a : Int) + 1 := by omega
        have g2 : ((a : Int) + 1).toNat = a + 1 := by omega
        have g3 : (0 : Int) ≤ (b : Int) + 1 := by omega
        have g4 : ((b : Int) + 1).toNat = b + 1 := by omega
        have g5 : (ByteArray.mk #[48, 49, 50, 51, 52, 53, 54, 55, 56, 57]).size = 10 := rfl
        have n1 : ¬ 9223372036854775807 < 2 + t.length := by omega
        have n2 : ¬ 9223372036854775807 < 2 + t.length + 1 := by omega
        have n3 : ¬ 9223372036854775807 < 2 + t.length + 1 + (min (a + 1) 10 - a) := by omega
        have n4 : ¬ 9223372036854775807 < 2 + t.length + 1 + (min (a + 1) 10 - a) + (min (b + 1) 10 - b) := by omega
        clear hr h1 h20 e1 e2 ha hb
        go_enter Tryz.func24, Tryz.ntmps24
        go_wp2_with fail
        refine HS.out.mono ?_
        rintro e w1 ⟨rfl, rfl⟩
        go_wp2
        go_quiet ((go_at_call 19; exact Calls.quiet_of (HN.out _)))
        go_wp2
        go_ret
        refine ⟨ret_str ?_, _, rfl⟩
        rw [HF.out, ta.out, tb.out]
        simp only [← str_app]
  · rw [decide_eq_false hr] at HS
    have HF : Hid (R = []) := by show _ = _; rw [← hR.out]; unfold partKeyL; rw [if_neg (fun h => hr h.1)]
    clear hr HN
    go_enter Tryz.func24, Tryz.ntmps24
    go_wp2_with fail
    refine HS.out.mono ?_
    rintro e w1 ⟨rfl, rfl⟩
    go_wp2
    go_ret
    rw [HF.out]
    exact ⟨rfl, 0, rfl⟩

end Go.Proofs.YtajmkkjlhmeolaaGreatDoor

/-
  The place that the reference's ReadKey fills: where it lies, its cells stored one by one; contracts of what it calls in one form.
-/
namespace Go.Proofs.YtajmkkjlhmeolaaGreatDoor
open Go.RowKit Go.Lib

structure RqAt (w wk : World) (cs : Array Value) : Prop where
  x : wk.heap[w.heap.size + 1]? = some (.cells cs 34 (0, 0))
  z : wk.heap[w.heap.size]? = some (.cells placeZero 34 (0, 0))
  b : Below w.heap.size w wk
theorem RqAt.later {w wk wl : World} {cs : Array Value} (h : RqAt w wk cs) (hb : Below wk.heap.size wk wl) : RqAt w wl cs :=
  have hs := (Array.getElem?_eq_some_iff.1 h.x).1
  ⟨(hb.block _ hs).trans h.x, (hb.block _ (by omega)).trans h.z, h.b.trans (hb.mono h.b.size)⟩
theorem RqAt.set {w wk : World} {cs : Array Value} (h : RqAt w wk cs) (new : Array Value) : RqAt w (wk.setRow (w.heap.size + 1) new) new :=
  ⟨setRow_heap _ _ _ _ _ _ h.x, (setRow_other _ _ _ _ (by omega)).trans h.z, below_one_row _ _ _ _ _ h.b (by omega)⟩
theorem RqAt.cell {w wk : World} {cs new : Array Value} (h : RqAt w wk cs) (o : Nat) (v : Value) (hn : cs.setIfInBounds o v = new) : RqAt w (wk.setCell ⟨w.heap.size + 1, o, none⟩ v).drew new := by
  subst hn
  exact ⟨heap_set h.x v, (Below.heap_setCell _ _ _ _ (by simp)).trans h.z, (h.b.setCell (by simp) v).drew⟩
/-- one cell of the place is stored; the world behind it by its facts alone -/
theorem wpList_place_store {P : Program} {ops : Array Oper} {rest : List Oper} {o : Oper} {a : Act} {w0 w : World} {Q : Exit → Act → World → Prop} (hgd : o.guard = none) (ty : TypeId) (x y : Operand) (ho : o.op = .store ty x y)
    (off : Nat) (v v' : Value) (hx : a.eval x = .pointer (some ⟨w0.heap.size + 1, off, none⟩)) (hy : a.eval y = v) (hv : v = v') (h1 : v'.oneCell' = true)
    (cs : Array Value) (K : RqAt w0 w cs) (hoff : off < cs.size) (hi : (P.info? ty).map (·.size) = some 1) (c0 c1 c2 c3 c4 : Value) (hc : cs.setIfInBounds off v' = #[c0, c1, c2, c3, c4])
    (h : ∀ W, RqAt w0 W #[c0, c1, c2, c3, c4] → W.cell? ⟨w0.heap.size + 1, 1, none⟩ = some c1 → W.cell? ⟨w0.heap.size + 1, 2, none⟩ = some c2 → W.cell? ⟨w0.heap.size + 1, 3, none⟩ = some c3 → W.cell? ⟨w0.heap.size + 1, 4, none⟩ = some c4 → wpList P ops Q rest (a.put o.dst undef) W) :
    wpList P ops Q (o :: rest) a w := by
  subst hv
  refine wpList_store_at hgd ty x y ho (w0.heap.size + 1) off v hx hy h1 cs _ K.x hoff hi ?_
  have K' := K.set (cs.setIfInBounds off v)
  rw [hc] at K' ⊢
  exact h _ K' (cell_of_heap K'.x) (cell_of_heap K'.x) (cell_of_heap K'.x) (cell_of_heap K'.x)

theorem rReadNumberB (s : List UInt8) (hl : s.length ≤ 140737488355328) (w : World) : Calls Tryz.prog 18 #[.string ⟨s.toArray⟩] w (NumRdOut (readNum s) w) := by
  refine (rReadNumber_any s w hl).mono ?_
  rintro e w' ⟨h, q, rfl⟩
  exact ⟨h, belowDrewN (Below.refl _ _) _⟩
theorem rBucketKeyB (b : List UInt8) (hb : b.length ≤ 140737488355328) (w : World) : Calls Tryz.prog 20 #[.string ⟨b.toArray⟩] w (StrOut (bucketKeyL b) w) := by
  refine (rBucketKey_any b hb w).mono ?_
  rintro e w' ⟨h, rfl⟩
  exact ⟨h, Below.refl _ _⟩
theorem rVersionKeyB (b k : List UInt8) (n : Int) (hb : b.length ≤ 140737488355328) (hk : k.length ≤ 140737488355328) (hn : IntOK n) (w : World) : Calls Tryz.prog 21 #[.string ⟨b.toArray⟩, .string ⟨k.toArray⟩, .int .i64 n] w (StrOut (versionKeyL b k n) w) := by
  refine (rVersionKey_any b k n hb hk hn w).mono ?_
  rintro e w' ⟨h, rfl⟩
  exact ⟨h, Below.refl _ _⟩
theorem rUploadKeyB (n : Int) (hn : IntOK n) (w : World) : Calls Tryz.prog 22 #[.int .i64 n] w (StrOut (keyL [117, 47] n) w) := by
  refine (rUploadKey_any n hn w).mono ?_
  rintro e w' ⟨h, rfl⟩
  exact ⟨h, Below.refl _ _⟩
theorem rBlobKeyB (n : Int) (hn : IntOK n) (w : World) : Calls Tryz.prog 25 #[.int .i64 n] w (StrOut (keyL [100, 47] n) w) := by
  refine (rBlobKey_any n hn w).mono ?_
  rintro e w' ⟨h, rfl⟩
  exact ⟨h, Below.refl _ _⟩
theorem rPartKeyB (n m : Int) (hn : IntOK n) (hm : IntOK m) (w : World) : Calls Tryz.prog 24 #[.int .i64 n, .int .i64 m] w (StrOut (partKeyL n m) w) := by
  refine (rPartKey_any n m hn hm w).mono ?_
  rintro e w' ⟨h, q, rfl⟩
  exact ⟨h, belowDrewN (Below.refl _ _) _⟩

/-- where a text is cut first -/
theorem cut_first (rest : List UInt8) : (cut1 rest 47).1.length ≤ rest.length ∧ (∀ j, (h : j < rest.length) → j < (cut1 rest 47).1.length → rest[j] ≠ 47) ∧ (∀ h : (cut1 rest 47).1.length < rest.length, rest[(cut1 rest 47).1.length] = 47) := by
  unfold cut1
  rcases indexByte_cases rest 47 with ⟨h1, h2⟩ | ⟨i, hi, hlt, h3, h4⟩
  · rw [h1, if_neg (by omega)]
    exact ⟨Nat.le_refl _, fun j h1 _ h3 => h2 (by rw [← h3]; exact List.getElem_mem _), fun h => absurd h (Nat.lt_irrefl _)⟩
  · rw [hi, if_pos (by omega)]
    have hl : (rest.take i).length = i := by rw [List.length_take]; omega
    simp only [Int.toNat_natCast, hl]
    refine ⟨by omega, fun j h1 h2 e => h4 ?_, fun h => (List.getElem?_eq_some_iff.1 h3).2⟩
    rw [← e, ← List.getElem_take (xs := rest) (j := i) (h := by omega)]
    exact List.getElem_mem _

end Go.Proofs.YtajmkkjlhmeolaaGreatDoor

/-
  storehouseref19: a field, a number, a flag as they are written: the walks; is it a moment, a number that was given out.
-/
namespace Go.Proofs.YtajmkkjlhmeolaaGreatDoor
open Go.RowKit Go.Lib Go.PlainAid

set_option maxHeartbeats 1000000 in
theorem rField_any (s : List UInt8) (hl : s.length ≤ 140737488351232) (w : World) : Calls Tryz.prog 77 #[.string ⟨s.toArray⟩] w fun e w' => e = .returned (.string ⟨(fieldL s).toArray⟩) ∧ ∃ q, w' = w.drewN q := by
  have HD := Lib.hid (digits_any s.length w (by omega))
  have hX : (decDigits s.length).length ≤ 21 := by
    have := itoa_length_le (s.length : Int) (by omega) (by omega)
    rw [itoa_nonneg] at this
    exact this
  have HE : Hid (fieldL s = decDigits s.length ++ [58] ++ s ++ [44]) := by show _ = _; unfold fieldL; rw [itoa_nonneg]; simp
  unfold DigOut at HD
  generalize decDigits s.length = X at HD HE hX
  have n1 : ¬ 9223372036854775807 < X.length + 1 := by omega
  have n2 : ¬ 9223372036854775807 < X.length + 1 + s.length := by omega
  have n3 : ¬ 9223372036854775807 < X.length + 1 + s.length + 1 := by omega
  go_enter Tryz.func77, Tryz.ntmps77
  go_wp2_with fail
  refine HD.out.mono ?_
  rintro e w1 ⟨rfl, q, rfl⟩
  go_wp2
  go_ret
  refine ⟨ret_str ?_, q, rfl⟩
  rw [HE.out]
  simp only [← str_app]

set_option maxHeartbeats 1000000 in
theorem rNum_any (n : Nat) (hn : n ≤ 9223372036854775807) (w : World) : Calls Tryz.prog 78 #[.int .i64 n] w fun e w' => e = .returned (.string ⟨(numL n).toArray⟩) ∧ ∃ q, w' = w.drewN q := by
  have HD := Lib.hid (digits_any n w hn)
  have hX : (decDigits n).length ≤ 21 := by
    have := itoa_length_le (n : Int) (by omega) (by omega)
    rw [itoa_nonneg] at this
    exact this
  have HF := Lib.hid (fun W => rField_any (decDigits n) (by omega) W)
  have HE : Hid (numL n = fieldL (decDigits n)) := by show _ = _; unfold numL; rw [itoa_nonneg]
  unfold DigOut at HD
  generalize decDigits n = X at HD HE HF hX
  go_enter Tryz.func78, Tryz.ntmps78
  go_wp2_with fail
  refine HD.out.mono ?_
  rintro e w1 ⟨rfl, q, rfl⟩
  go_wp2_with fail
  refine (HF.out _).mono ?_
  rintro e w2 ⟨rfl, q2, rfl⟩
  go_wp2
  go_ret
  rw [HE.out]
  exact ⟨rfl, q + q2, rfl⟩

set_option maxHeartbeats 1000000 in
theorem rFlag_any (b : Bool) (w : World) : Calls Tryz.prog 79 #[.bool b] w fun e w' => e = .returned (.string ⟨(numL (flagN b)).toArray⟩) ∧ ∃ q, w' = w.drewN q := by
  have H1 := Lib.hid (rField_any [49] (by simp) w)
  have H0 := Lib.hid (rField_any [48] (by simp) w)
  have HE : Hid (numL (flagN b) = fieldL (if b then [49] else [48])) := by show _ = _; unfold numL; rw [itoa_flag]
  cases b with
  | true =>
    go_enter Tryz.func79, Tryz.ntmps79
    go_wp2_with fail
    refine H1.out.mono ?_
    rintro e w1 ⟨rfl, q, rfl⟩
    go_wp2
    go_ret
    rw [HE.out]
    exact ⟨rfl, q, rfl⟩
  | false =>
    go_enter Tryz.func79, Tryz.ntmps79
    go_wp2_with fail
    refine H0.out.mono ?_
    rintro e w1 ⟨rfl, q, rfl⟩
    go_wp2
    go_ret
    rw [HE.out]
    exact ⟨rfl, q, rfl⟩

theorem rIs_any (n : Int) (w : World) : Calls Tryz.prog 102 #[.int .i64 n] w fun e w' => e = .returned (.bool (decide (0 ≤ n ∧ n ≤ 253402300799))) ∧ w = w' := by
  by_cases h1 : 0 ≤ n
  · by_cases h2 : n ≤ 253402300799
    · rw [decide_eq_true ⟨h1, h2⟩]
      go_enter Tryz.func102, Tryz.ntmps102
      go_wp2
      go_ret
      exact ⟨rfl, rfl⟩
    · rw [decide_eq_false (fun h => h2 h.2)]
      go_enter Tryz.func102, Tryz.ntmps102
      go_wp2
      go_ret
      exact ⟨rfl, rfl⟩
  · rw [decide_eq_false (fun h => h1 h.1)]
    go_enter Tryz.func102, Tryz.ntmps102
    go_wp2
    go_ret
    exact ⟨rfl, rfl⟩

theorem rValue_any (l : List UInt8) (hl : l.length ≤ 140737488351232) (w : World) : Calls Tryz.prog 68 #[.string ⟨l.toArray⟩] w fun e w' => e = .returned (.int .i64 (valueL l)) ∧ w = w' :=
  value_any ⟨l.toArray⟩ w (by show l.toArray.size ≤ _; simpa using hl)

end Go.Proofs.YtajmkkjlhmeolaaGreatDoor
