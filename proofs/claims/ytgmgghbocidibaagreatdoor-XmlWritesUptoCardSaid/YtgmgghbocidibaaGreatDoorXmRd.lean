/-
  xml's reader: how it lies; fail, ahead, want, blanks.
-/
import Derived.Test.YtgmgghbocidibaaGreatDoorXmFind
import Derived.Deep.RegionHeld3
import Derived.Deep.DeepCutAuto
import Derived.Deep.CutBlock
import Derived.Deep.LoopGhost
import Derived.PlainAid
import Derived.Deep.QuietTactic
import Derived.BigQuiet
namespace Go.Proofs.YtgmgghbocidibaaGreatDoor
open Go.RowKit Go.Lib Go.PlainAid

theorem xt_at {s : ByteArray} {i : Nat} (h : i < s.size) : ∃ c : UInt8, s.data.toList.drop i = c :: s.data.toList.drop (i + 1) ∧ bt s i = (c.toNat : Int) := by
  have hl : i < s.data.toList.length := by rw [Array.length_toList]; exact h
  exact ⟨s[i], by rw [List.drop_eq_getElem_cons hl]; rfl, by unfold bt; rw [dif_pos h]⟩
theorem xt_cons {s : ByteArray} {i : Nat} {c : UInt8} {r : Bs} (h : s.data.toList.drop i = c :: r) : i < s.size ∧ bt s i = (c.toNat : Int) ∧ s.data.toList.drop (i + 1) = r := by
  have h1 : i < s.size := by
    apply Classical.byContradiction
    intro h2
    rw [List.drop_of_length_le (by rw [Array.length_toList]; exact Nat.le_of_not_lt h2)] at h
    cases h
  obtain ⟨d, h2, h3⟩ := xt_at h1
  rw [h2] at h
  injection h with e1 e2
  subst e1
  exact ⟨h1, h3, e2⟩
theorem xt_nil {s : ByteArray} {i : Nat} (h : s.data.toList.drop i = []) : s.size ≤ i := by
  apply Classical.byContradiction
  intro h2
  obtain ⟨d, h2, -⟩ := xt_at (s := s) (i := i) (by omega)
  rw [h2] at h; cases h
theorem xt_len {s : ByteArray} {i : Nat} {r : Bs} (h : s.data.toList.drop i = r) : r.length = s.size - i := by rw [← h, List.length_drop, Array.length_toList]; rfl
theorem xt_ext {s : ByteArray} {i : Nat} {r : Bs} (h : s.data.toList.drop i = r) : s.extract i s.size = ⟨r.toArray⟩ := by
  apply ByteArray.ext
  have h1 := Lib.extract_data s i s.size
  rw [h, List.take_of_length_le (by have := xt_len h; omega)] at h1
  exact Array.ext' h1
theorem xt_mid {s : ByteArray} {i n : Nat} {r : Bs} (h : s.data.toList.drop i = r) : s.extract i (i + n) = ⟨(r.take n).toArray⟩ := by
  apply ByteArray.ext
  have h1 := Lib.extract_data s i (i + n)
  rw [h, show i + n - i = n from by omega] at h1
  exact Array.ext' h1
theorem sz_str (l : Bs) : (⟨l.toArray⟩ : ByteArray).size = l.length := by simp [ByteArray.size]

theorem bel_drewN {B : Nat} {a w : World} (h : Below B a w) (n : Nat) : Below B a (w.drewN n) := h.trans ⟨rfl, rfl, rfl, Nat.le_refl _, fun _ _ => rfl⟩
/-- a reader's cells -/
def rdC (S : ByteArray) (a : Nat) (bad pv : Value) : Array Value := #[.string S, .int .i64 (a : Int), bad, pv]
/-- a reader at b over S: r is left -/
def RdAt (w : World) (b : Nat) (S : ByteArray) (r : Bs) (pv : Value) : Prop :=
  ∃ a, a ≤ S.size ∧ S.size ≤ 8000 ∧ S.data.toList.drop a = r ∧ w.heap[b]? = some (.cells (rdC S a (.pointer none) pv) 60 (0, 0))
/-- something was wrong, with k bytes left -/
def RdBad (w : World) (b : Nat) (S : ByteArray) (c : Int) (k : Nat) (pv : Value) : Prop :=
  ∃ a g, a ≤ S.size ∧ S.size ≤ 8000 ∧ k ≤ S.size ∧ w.heap[b]? = some (.cells (rdC S a (.pointer (some ⟨g, 0, none⟩)) pv) 60 (0, 0)) ∧ w.heap[g]? = some (.cells #[.int .i64 c, .int .i64 ((S.size : Int) - k)] 67 (0, 0)) ∧ g ≠ b
/-- how a reader stands -/
def RdSt (w : World) (b : Nat) (S : ByteArray) (pv : Value) : R Bs → Prop
  | .ok r => RdAt w b S r pv
  | .error e => RdBad w b S e.1 e.2 pv
theorem RdAt.chg {w w' : World} {b : Nat} {S : ByteArray} {r : Bs} {pv : Value} {M : Nat → Prop} (h : RdAt w b S r pv) (hc : Chg w w' M) (hm : ¬ M b) : RdAt w' b S r pv := by
  obtain ⟨a, h1, h2, h3, h4⟩ := h
  exact ⟨a, h1, h2, h3, (hc.block b (Array.getElem?_eq_some_iff.1 h4).1 hm).trans h4⟩
theorem RdAt.later {w w' : World} {b : Nat} {S : ByteArray} {r : Bs} {pv : Value} (h : RdAt w b S r pv) (hb : Below w.heap.size w w') : RdAt w' b S r pv :=
  h.chg (M := fun _ => False) (Chg.of_below hb) id
theorem RdBad.chg {w w' : World} {b : Nat} {S : ByteArray} {c : Int} {k : Nat} {pv : Value} (h : RdBad w b S c k pv) (hc : Chg w w' (fun _ => False)) : RdBad w' b S c k pv := by
  obtain ⟨a, g, h1, h2, h3, h4, h5, h6⟩ := h
  exact ⟨a, g, h1, h2, h3, (hc.block b (Array.getElem?_eq_some_iff.1 h4).1 id).trans h4, (hc.block g (Array.getElem?_eq_some_iff.1 h5).1 id).trans h5, h6⟩
theorem RdBad.later {w w' : World} {b : Nat} {S : ByteArray} {c : Int} {k : Nat} {pv : Value} (h : RdBad w b S c k pv) (hb : Below w.heap.size w w') : RdBad w' b S c k pv := h.chg (Chg.of_below hb)
theorem RdAt.lt {w : World} {b : Nat} {S : ByteArray} {r : Bs} {pv : Value} (h : RdAt w b S r pv) : b < w.heap.size := by
  obtain ⟨a, -, -, -, h4⟩ := h
  exact (Array.getElem?_eq_some_iff.1 h4).1
/-- the method's own block was written -/
abbrev Mine (b : Nat) (w w' : World) : Prop := Chg w w' (fun x => x = b)
/-- how a method ends that has no result -/
def RdOut (b : Nat) (S : ByteArray) (pv : Value) (st : R Bs) (w : World) (e : Ending) (w' : World) : Prop := e = .returned (.tuple #[]) ∧ RdSt w' b S pv st ∧ Mine b w w'
theorem at_set {w : World} {b : Nat} {S : ByteArray} {a : Nat} {bad pv : Value} (h : w.heap[b]? = some (.cells (rdC S a bad pv) 60 (0, 0))) (n : Nat) :
    (w.setCell ⟨b, 1, none⟩ (.int .i64 (n : Int))).heap[b]? = some (.cells (rdC S n bad pv) 60 (0, 0)) := by rw [heap_set h]; rfl
theorem mine_set (w : World) (b x : Nat) (v : Value) : Mine b w (w.setCell ⟨b, x, none⟩ v) := Chg.set w ⟨b, x, none⟩ v

set_option maxHeartbeats 2000000 in
set_option maxRecDepth 100000 in
theorem rfail_any {w : World} {b : Nat} {S : ByteArray} {r : Bs} {pv : Value} (h : RdAt w b S r pv) (c : Int) (k : Nat) (hk : k ≤ S.size) :
    Calls Tryz.prog 30 #[.pointer (some ⟨b, 0, none⟩), .int .i64 c, .int .i64 ((S.size : Int) - k)] w (RdOut b S pv (.error (c, k)) w) := by
  obtain ⟨a, ha, hs, hd, hh⟩ := h
  have q2 : w.cell? ⟨b, 2, none⟩ = some (.pointer none) := cell_at hh rfl
  have HH := Lib.hid hh
  have HK := Lib.hid (And.intro ha (And.intro hs hk))
  obtain ⟨p, hp⟩ : ∃ p, (S.size : Int) - k = p := ⟨_, rfl⟩
  have HP : Hid ((S.size : Int) - k = p) := hp
  rw [hp]
  have hlt : b < w.heap.size := (Array.getElem?_eq_some_iff.1 hh).1
  clear hh ha hs hd hp hk
  go_enter Tryz.func30, Tryz.ntmps30
  go_wp2_with (refine wpList_store_cellN (by rfl) 57 _ _ (by rfl) b 2 (.pointer (some ⟨w.heap.size, 0, none⟩)) (by rfl) (by rfl) (by rfl) 60 (rdC S a (.pointer none) pv) (by exact heap_old _ HH.out) (by exact Nat.le_of_ble_eq_true rfl) (by kernel_rfl) (fun W => W.heap[b]? = some (.cells (rdC S a (.pointer (some ⟨w.heap.size, 0, none⟩)) pv) 60 (0, 0)) ∧ W.heap[w.heap.size]? = some (.cells #[.int .i64 c, .int .i64 p] 67 (0, 0)) ∧ Mine b w W) (by exact ⟨setRow_heap _ _ _ _ _ _ (heap_old _ HH.out), (setRow_other _ _ _ _ (by omega)).trans (heap_alloc_new _ _), Chg.setRow_on (Chg.of_below (below_alloc (Below.refl _ _) (Nat.le_refl _) _)) _ rfl⟩) ?_; rintro W1 h1)
  go_end0
  refine ⟨rfl, ⟨a, w.heap.size, HK.out.1, HK.out.2.1, HK.out.2.2, h1.1, by rw [HP.out]; exact h1.2.1, by omega⟩, h1.2.2⟩

set_option maxHeartbeats 2000000 in
set_option maxRecDepth 100000 in
theorem rahead_any {w : World} {b : Nat} {S : ByteArray} {r : Bs} {pv : Value} (h : RdAt w b S r pv) (p : Bs) :
    Calls Tryz.prog 26 #[.pointer (some ⟨b, 0, none⟩), .string ⟨p.toArray⟩] w fun e w' => e = .returned (.bool (p.isPrefixOf r)) ∧ Below w.heap.size w w' := by
  obtain ⟨a, ha, hs, hd, hh⟩ := h
  have q0 : w.cell? ⟨b, 0, none⟩ = some (.string S) := cell_at hh rfl
  have q1 : w.cell? ⟨b, 1, none⟩ = some (.int .i64 (a : Int)) := cell_at hh rfl
  have hx := xt_ext hd
  have HF := Lib.hid (fun W => Tryz.strings_HasPrefix ⟨r.toArray⟩ ⟨p.toArray⟩ W)
  have haz : (a : Int) ≤ (S.size : Int) := by omega
  clear hh hd
  go_enter Tryz.func26, Tryz.ntmps26
  go_wp2_with fail
  go_quiet ((go_at_call 38; exact Calls.quiet_of_same (HF.out _)))
  go_wp2_with fail
  go_ret
  exact ⟨rfl, bel_drewN (Below.refl _ _) _⟩

theorem rfail_at {S : ByteArray} {a : Nat} {r : Bs} (ha : a ≤ S.size) (hs : S.size ≤ 8000) (hd : S.data.toList.drop a = r) (b : Nat) (pv : Value) (c : Int) (W : World)
    (hh : W.heap[b]? = some (.cells (rdC S a (.pointer none) pv) 60 (0, 0))) :
    Calls Tryz.prog 30 #[.pointer (some ⟨b, 0, none⟩), .int .i64 c, .int .i64 (a : Int)] W (RdOut b S pv (.error (c, r.length)) W) := by
  have h1 := rfail_any (r := r) ⟨a, ha, hs, hd, hh⟩ c r.length (by rw [xt_len hd]; omega)
  rw [xt_len hd, show ((S.size : Int) - ((S.size - a : Nat) : Int)) = (a : Int) from by omega] at h1
  rw [xt_len hd]
  exact h1
theorem wantL_cons (c : UInt8) (p r : Bs) : wantL (c :: p) (c :: r) = wantL p r := by
  conv => lhs; unfold wantL
  exact if_pos rfl
theorem wantL_ne {c x : UInt8} (h : ¬ c = x) (p r : Bs) : wantL (x :: p) (c :: r) = .error (55, (c :: r).length) := by
  conv => lhs; unfold wantL
  exact if_neg h
theorem mine_drewN {b : Nat} {w W : World} (n : Nat) (h : Mine b w W) : Mine b w (W.drewN n) := Chg.below_on h (bel_drewN (Below.refl _ _) _)
set_option maxHeartbeats 4000000 in
set_option maxRecDepth 100000 in
theorem rwant_any {w : World} {b : Nat} {S : ByteArray} {r : Bs} {pv : Value} (h : RdAt w b S r pv) (p : Bs) (hp : p.length ≤ 1000000) :
    Calls Tryz.prog 27 #[.pointer (some ⟨b, 0, none⟩), .string ⟨p.toArray⟩] w (RdOut b S pv (wantL p r) w) := by
  obtain ⟨P, hP⟩ : ∃ P : ByteArray, (⟨p.toArray⟩ : ByteArray) = P := ⟨_, rfl⟩
  have hpl : p.length = P.size := by rw [← hP, sz_str]
  have HPL : Hid (P.data.toList = p) := by show _ = _; rw [← hP]
  have HH := Lib.hid h
  rw [hpl] at hp
  rw [hP]
  have hbP := get_bt P
  have hbS := get_bt S
  clear h hP hpl
  go_enter Tryz.func27, Tryz.ntmps27
  go_wp2_with fail
  go_loopg [4] P.size (fun gg s4 wr => ∃ (i : Nat) (r' : Bs), i ≤ P.size ∧ P.size - i ≤ gg ∧ s4 = .int .i64 i ∧ Hid (RdAt wr b S r' pv) ∧ Hid (wantL p r = wantL (p.drop i) r') ∧ Hid (Mine b w wr))
  case atStart => exact ⟨0, r, Nat.zero_le _, by omega, rfl, HH, by show _ = _; rfl, Chg.refl _ _⟩
  case round =>
    obtain ⟨i, r', hi, hg, rfl, HR, HW, HM⟩ := hrel
    obtain ⟨a, ha, hs, hd, hh⟩ := HR.out
    have q0 : wr.cell? ⟨b, 0, none⟩ = some (.string S) := cell_at hh rfl
    have q1 : wr.cell? ⟨b, 1, none⟩ = some (.int .i64 (a : Int)) := cell_at hh rfl
    have q2 : wr.cell? ⟨b, 2, none⟩ = some (.pointer none) := cell_at hh rfl
    have f1 : wr.frozen? ⟨b, 1, none⟩ = false := free_of_heap hh
    have HX := Lib.hid hh
    have HD := Lib.hid hd
    have HF := Lib.hid (rfail_at ha hs hd b pv 55)
    clear hh hd
    by_cases hlt : i < P.size
    · have hiz : (i : Int) < (P.size : Int) := by omega
      obtain ⟨x, hx1, hx2⟩ := xt_at hlt
      rw [HPL.out] at hx1
      have HX1 := Lib.hid hx1
      clear hx1
      cases r' with
      | nil =>
        have hz := xt_nil HD.out
        have hgz : (S.size : Int) ≤ (a : Int) := by omega
        have HE : Hid (wantL p r = .error (55, ([] : Bs).length)) := by show _ = _; rw [HW.out, HX1.out]; rfl
        clear hz
        go_wp2_with fail
        go_quiet (fail)
        go_wp2_with fail
        refine (HF.out (wr.drewN nq) HX.out).mono ?_
        rintro e W ⟨rfl, h1, h2⟩
        go_wp2_with fail
        go_end0
        rw [HE.out]
        exact ⟨rfl, h1, (mine_drewN _ HM.out).trans h2⟩
      | cons c r2 =>
        obtain ⟨hz1, hz2, hz3⟩ := xt_cons HD.out
        have haz : (a : Int) < (S.size : Int) := by omega
        by_cases hc : c = x
        · subst hc
          have he : bt S a = bt P i := by rw [hz2, hx2]
          have HN : Hid (wantL p r = wantL (p.drop (i + 1)) r2) := by show _ = _; rw [HW.out, HX1.out, wantL_cons]
          have HZ := Lib.hid hz3
          clear hz2 hx2 hz3
          go_wp2_with fail
          go_quiet (fail)
          go_wp2_with fail
          go_roundg (P.size - (i + 1))
          case measure => omega
          case rel =>
            exact ⟨i + 1, r2, by omega, by omega, by go_num, ⟨a + 1, by omega, hs, HZ.out, at_set (w := wr.drewN nq) HX.out (a + 1)⟩, HN, (mine_drewN _ HM.out).trans (mine_set _ _ _ _)⟩
        · have he : (bt S a != bt P i) = true := by rw [hz2, hx2, bne_iff_ne]; intro e; exact hc (UInt8.toNat_inj.1 (by omega))
          have HE : Hid (wantL p r = .error (55, (c :: r2).length)) := by show _ = _; rw [HW.out, HX1.out, wantL_ne hc]
          clear hz2 hx2 hz3
          go_wp2_with fail
          go_quiet (fail)
          go_wp2_with fail
          refine (HF.out (wr.drewN nq) HX.out).mono ?_
          rintro e W ⟨rfl, h1, h2⟩
          go_wp2_with fail
          go_end0
          rw [HE.out]
          exact ⟨rfl, h1, (mine_drewN _ HM.out).trans h2⟩
    · have HE : Hid (wantL p r = .ok r') := by
        show _ = _
        rw [HW.out, List.drop_of_length_le (by rw [← HPL.out, Array.length_toList]; exact Nat.le_of_not_lt hlt)]
        cases r' <;> rfl
      go_wp2_with fail
      go_end0
      rw [HE.out]
      exact ⟨rfl, HR.out, HM.out⟩

set_option maxHeartbeats 2000000 in
set_option maxRecDepth 100000 in
/-- where something was wrong already, nothing more is taken -/
theorem rwant_bad {w : World} {b : Nat} {S : ByteArray} {c : Int} {k : Nat} {pv : Value} (h : RdBad w b S c k pv) (p : Bs) (hp : p.length ≤ 1000000) :
    Calls Tryz.prog 27 #[.pointer (some ⟨b, 0, none⟩), .string ⟨p.toArray⟩] w fun e w' => e = .returned (.tuple #[]) ∧ w' = w := by
  obtain ⟨a, g, -, -, -, hh, -, -⟩ := h
  have q2 : w.cell? ⟨b, 2, none⟩ = some (.pointer (some ⟨g, 0, none⟩)) := cell_at hh rfl
  clear hh
  go_enter Tryz.func27, Tryz.ntmps27
  cases p with
  | nil =>
    go_wp2_with fail
    go_loopg [4] 0 (fun gg s4 wr => s4 = .int .i64 0 ∧ wr = w)
    case atStart => exact ⟨rfl, rfl⟩
    case round =>
      obtain ⟨rfl, rfl⟩ := hrel
      go_wp2_with fail
      go_end0
      exact ⟨rfl, rfl⟩
  | cons x p =>
    go_wp2_with fail
    go_loopg [4] 0 (fun gg s4 wr => s4 = .int .i64 0 ∧ wr = w)
    case atStart => exact ⟨rfl, rfl⟩
    case round =>
      obtain ⟨rfl, rfl⟩ := hrel
      go_wp2_with fail
      go_end0
      exact ⟨rfl, rfl⟩
/-- want, whatever went before -/
theorem rwant_st {w : World} {b : Nat} {S : ByteArray} {pv : Value} {st : R Bs} (h : RdSt w b S pv st) (p : Bs) (hp : p.length ≤ 1000000) :
    Calls Tryz.prog 27 #[.pointer (some ⟨b, 0, none⟩), .string ⟨p.toArray⟩] w (RdOut b S pv (st.bind (wantL p)) w) := by
  cases st with
  | ok r => exact rwant_any h p hp
  | error e =>
    refine (rwant_bad h p hp).mono ?_
    rintro x w' ⟨rfl, rfl⟩
    exact ⟨rfl, h, Chg.refl _ _⟩

theorem blank_at : ∀ n : Fin 256, decide (0 ≤ Lib.indexByte [32, 9, 10, 13] (UInt8.ofNat n.val)) = blankB (UInt8.ofNat n.val) := by decide +kernel
theorem skipL_cons (c : UInt8) (r : Bs) : skipL (c :: r) = if blankB c then skipL r else c :: r := by
  unfold skipL
  rw [List.dropWhile_cons]
set_option maxHeartbeats 4000000 in
set_option maxRecDepth 100000 in
theorem rblanks_any {w : World} {b : Nat} {S : ByteArray} {r : Bs} {pv : Value} (h : RdAt w b S r pv) :
    Calls Tryz.prog 25 #[.pointer (some ⟨b, 0, none⟩)] w fun e w' => e = .returned (.int .i64 ((r.length : Int) - (skipL r).length)) ∧ RdAt w' b S (skipL r) pv ∧ Mine b w w' := by
  obtain ⟨a0, ha0, hs, hd0, hh0⟩ := h
  have q00 : w.cell? ⟨b, 1, none⟩ = some (.int .i64 (a0 : Int)) := cell_at hh0 rfl
  have hbS := get_bt S
  have HX0 := Lib.hid hh0
  have HD0 := Lib.hid hd0
  have HIB := Lib.hid (fun c W => Tryz.strings_IndexByte ⟨#[32, 9, 10, 13]⟩ c W)
  clear hh0 hd0
  go_enter Tryz.func25, Tryz.ntmps25
  go_wp2_with fail
  go_loopg [] S.size (fun gg wr => ∃ (a : Nat) (r' : Bs), a0 ≤ a ∧ a ≤ S.size ∧ S.size - a ≤ gg ∧ Hid (S.data.toList.drop a = r') ∧ Hid (wr.heap[b]? = some (.cells (rdC S a (.pointer none) pv) 60 (0, 0))) ∧ Hid (skipL r = skipL r') ∧ Hid (Mine b w wr))
  case atStart => exact ⟨a0, r, Nat.le_refl _, ha0, by omega, HD0, HX0, by show _ = _; rfl, Chg.refl _ _⟩
  case round =>
    obtain ⟨a, r', h0a, ha, hg, HD, HX, HW, HM⟩ := hrel
    have q0 : wr.cell? ⟨b, 0, none⟩ = some (.string S) := cell_at HX.out rfl
    have q1 : wr.cell? ⟨b, 1, none⟩ = some (.int .i64 (a : Int)) := cell_at HX.out rfl
    have f1 : wr.frozen? ⟨b, 1, none⟩ = false := free_of_heap HX.out
    cases r' with
    | nil =>
      have hz := xt_nil HD.out
      have hgz : decide (a < S.size) = false := by rw [decide_eq_false_iff_not]; omega
      have HE : Hid (skipL r = []) := HW.out
      have HL : Hid ((r.length : Int) - (([] : Bs).length : Int) = (a : Int) - a0) := by show _ = _; rw [xt_len HD0.out]; simp only [List.length_nil]; omega
      go_wp2_with fail
      go_quiet (fail)
      go_wp2_with fail
      go_ret
      rw [HE.out]
      exact ⟨by rw [HL.out]; rfl, ⟨a, ha, hs, HD.out, HX.out⟩, (mine_drewN _ HM.out)⟩
    | cons c r2 =>
      obtain ⟨hz1, hz2, hz3⟩ := xt_cons HD.out
      have haz : (a : Int) < (S.size : Int) := by omega
      have hb := blank_at ⟨c.toNat, UInt8.toNat_lt c⟩
      simp only [UInt8.ofNat_toNat] at hb
      have HI : Hid (∀ W, Calls Tryz.prog 28 #[.string ⟨#[32, 9, 10, 13]⟩, .int .u8 (bt S a)] W fun e w' => e = .returned (.int .i64 (Lib.indexByte [32, 9, 10, 13] c)) ∧ w' = W) := fun W => by
        have := HIB.out (bt S a) W
        rw [hz2] at this ⊢
        rwa [show ((c.toNat : Int).toNat.toUInt8) = c from by simp] at this
      have HZ := Lib.hid hz3
      have HSK := Lib.hid (skipL_cons c r2)
      obtain ⟨ix, hix⟩ : ∃ ix, Lib.indexByte [32, 9, 10, 13] c = ix := ⟨_, rfl⟩
      rw [hix] at hb HI
      clear hz2 hz3 hix
      cases hc : blankB c with
      | true =>
        rw [hc] at hb
        have HN : Hid (skipL r = skipL r2) := by show _ = _; rw [HW.out, HSK.out, if_pos hc]
        go_wp2_with fail
        go_quiet ((go_at_call 28; exact Calls.quiet_of_same (HI.out _)))
        go_wp2_with fail
        go_roundg (S.size - (a + 1))
        case measure => omega
        case rel =>
          exact ⟨a + 1, r2, by omega, by omega, by omega, HZ, at_set (w := wr.drewN nq) HX.out (a + 1), HN, (mine_drewN _ HM.out).trans (mine_set _ _ _ _)⟩
      | false =>
        rw [hc] at hb
        have HN : Hid (skipL r = c :: r2) := by show _ = _; rw [HW.out, HSK.out, if_neg (by rw [hc]; decide)]
        have HL : Hid ((r.length : Int) - ((c :: r2 : Bs).length : Int) = (a : Int) - a0) := by show _ = _; rw [xt_len HD0.out, xt_len HD.out]; omega
        go_wp2_with fail
        go_quiet ((go_at_call 28; exact Calls.quiet_of_same (HI.out _)))
        go_wp2_with fail
        go_ret
        rw [HN.out]
        exact ⟨by rw [HL.out]; rfl, ⟨a, ha, hs, HD.out, HX.out⟩, (mine_drewN _ HM.out)⟩
end Go.Proofs.YtgmgghbocidibaaGreatDoor
