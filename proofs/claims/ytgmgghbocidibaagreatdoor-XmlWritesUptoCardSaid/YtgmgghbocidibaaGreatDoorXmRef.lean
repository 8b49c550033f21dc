/-
  xml's reader: reference. (UNDER WAY)
-/
import Derived.Test.YtgmgghbocidibaaGreatDoorSm21
namespace Go.Proofs.YtgmgghbocidibaaGreatDoor
open Go.RowKit Go.Lib Go.PlainAid

/-- the five names' cells -/
def nmsC : Array Value := #[.string ⟨#[38, 97, 109, 112, 59]⟩, .string ⟨#[38]⟩, .string ⟨#[38, 108, 116, 59]⟩, .string ⟨#[60]⟩, .string ⟨#[38, 103, 116, 59]⟩, .string ⟨#[62]⟩, .string ⟨#[38, 113, 117, 111, 116, 59]⟩, .string ⟨#[34]⟩, .string ⟨#[38, 97, 112, 111, 115, 59]⟩, .string ⟨#[39]⟩]

/-- how reference ends -/
def RefOut (b g : Nat) (S : ByteArray) (pv : Value) (nm : ByteArray) (kv : Value) (sd : Bool) (l : Bs) (v : Value) (st : R (Bs × Bs)) (w : World) (e : Ending) (w' : World) : Prop :=
  e = .returned (.tuple #[]) ∧ Chg w w' (fun k => k = b ∨ k = g ∨ some k = v.ownBlock) ∧ match st with
    | .ok y => RdAt w' b S y.2 pv ∧ ∃ v', BdAt w' g nm kv sd (l ++ y.1) v'
    | .error y => RdBad w' b S y.1 y.2 pv
theorem names_at : ∀ i : Nat, i < 5 → ∃ x, namesX[i]? = some x ∧ nmsC[i * 2 + 0]? = some (.string ⟨x.1.toArray⟩) ∧ nmsC[i * 2 + 1]? = some (.string ⟨x.2.toArray⟩) ∧ x.1.length ≤ 6 ∧ x.2.length = 1
  | 0, _ => ⟨_, rfl, rfl, rfl, by decide, rfl⟩
  | 1, _ => ⟨_, rfl, rfl, rfl, by decide, rfl⟩
  | 2, _ => ⟨_, rfl, rfl, rfl, by decide, rfl⟩
  | 3, _ => ⟨_, rfl, rfl, rfl, by decide, rfl⟩
  | 4, _ => ⟨_, rfl, rfl, rfl, by decide, rfl⟩
  | n + 5, h => absurd h (by omega)

/-- the two forms of a character's number -/
def formsX : List (Bs × Nat × Nat) := [([38, 35], 10, 7), ([38, 35, 120], 16, 6)]
def frmC : Array Value := #[.string ⟨#[38, 35]⟩, .string ⟨#[48, 49, 50, 51, 52, 53, 54, 55, 56, 57]⟩, .int .i64 10, .int .i64 7, .string ⟨#[38, 35, 120]⟩, .string ⟨#[48, 49, 50, 51, 52, 53, 54, 55, 56, 57, 97, 98, 99, 100, 101, 102, 65, 66, 67, 68, 69, 70]⟩, .int .i64 16, .int .i64 6]
theorem forms_at : ∀ i : Nat, i < 2 → ∃ x, formsX[i]? = some x ∧ frmC[i * 4 + 0]? = some (.string ⟨x.1.toArray⟩) ∧ frmC[i * 4 + 1]? = some (.string ⟨(digs x.2.1).toArray⟩) ∧ frmC[i * 4 + 2]? = some (.int .i64 (x.2.1 : Int)) ∧ frmC[i * 4 + 3]? = some (.int .i64 (x.2.2 : Int)) ∧ (x.2.1 = 10 ∨ x.2.1 = 16) ∧ 0 < x.2.2 ∧ x.2.2 ≤ 7 ∧ x.1.length ≤ 3
  | 0, _ => ⟨_, rfl, rfl, rfl, rfl, rfl, .inl rfl, by decide, by decide, by decide⟩
  | 1, _ => ⟨_, rfl, rfl, rfl, rfl, rfl, .inr rfl, by decide, by decide, by decide⟩
  | n + 2, h => absurd h (by omega)
theorem ref_yes {r : Bs} {i : Nat} {x : Bs × Bs} (h1 : (namesX.take i).find? (fun x => x.1.isPrefixOf r) = none) (h2 : namesX[i]? = some x) (h3 : x.1.isPrefixOf r = true) : refL r = .ok (x.2, r.drop x.1.length) := by
  have h4 : namesX.find? (fun x => x.1.isPrefixOf r) = some x := by
    have hlt := (List.getElem?_eq_some_iff.1 h2).1
    have h5 : namesX = namesX.take i ++ x :: namesX.drop (i + 1) := by
      conv => lhs; rw [← List.take_append_drop i namesX]
      rw [List.drop_eq_getElem_cons hlt, (List.getElem?_eq_some_iff.1 h2).2]
    rw [h5, List.find?_append, h1, List.find?_cons, h3]
    rfl
  unfold refL
  rw [h4]

theorem ref_no {r : Bs} {sh : Bool} (h1 : namesX.find? (fun x => x.1.isPrefixOf r) = none) (h2 : ∀ x ∈ formsX, ∃ t, numL x.1 x.2.1 x.2.2 r = .inr t) (h3 : sh = true ↔ (namesX.any (fun x => r.isPrefixOf x.1) = true ∨ ∃ x ∈ formsX, numL x.1 x.2.1 x.2.2 r = .inr true)) : refL r = .error (55, if sh then 0 else r.length) := by
  obtain ⟨t1, e1⟩ := h2 ([38, 35], 10, 7) (by simp [formsX])
  obtain ⟨t2, e2⟩ := h2 ([38, 35, 120], 16, 6) (by simp [formsX])
  unfold refL
  rw [h1]
  simp only at e1 e2 ⊢
  rw [e1]
  simp only
  rw [e2]
  simp only
  have h4 : (namesX.any (fun x => r.isPrefixOf x.1) || t1 || t2) = sh := by
    rw [Bool.eq_iff_iff, h3]
    simp only [formsX, List.mem_cons, List.not_mem_nil, or_false, exists_eq_or_imp, exists_eq_left, e1, e2, Bool.or_eq_true, Sum.inr.injEq, or_assoc]
  rw [h4]

theorem forms_next {r : Bs} {i : Nat} {x : Bs × Nat × Nat} {sh z : Bool} (hx : formsX[i]? = some x) (h1 : ∀ x ∈ formsX.take i, ∃ t, numL x.1 x.2.1 x.2.2 r = .inr t) (h2 : sh = true ↔ (namesX.any (fun x => r.isPrefixOf x.1) = true ∨ ∃ x ∈ formsX.take i, numL x.1 x.2.1 x.2.2 r = .inr true)) (h3 : numL x.1 x.2.1 x.2.2 r = .inr z) :
    (∀ x ∈ formsX.take (i + 1), ∃ t, numL x.1 x.2.1 x.2.2 r = .inr t) ∧ ((sh || z) = true ↔ (namesX.any (fun x => r.isPrefixOf x.1) = true ∨ ∃ x ∈ formsX.take (i + 1), numL x.1 x.2.1 x.2.2 r = .inr true)) := by
  have hT : formsX.take (i + 1) = formsX.take i ++ [x] := by rw [List.take_add_one, hx]; rfl
  constructor
  · intro x' hx'
    rw [hT, List.mem_append, List.mem_singleton] at hx'
    rcases hx' with h | rfl
    · exact h1 x' h
    · exact ⟨z, h3⟩
  · rw [Bool.or_eq_true, h2, hT, or_assoc]
    refine or_congr_right ⟨?_, ?_⟩
    · rintro (⟨x', h1, h2⟩ | h)
      · exact ⟨x', List.mem_append.2 (.inl h1), h2⟩
      · exact ⟨x, List.mem_append.2 (.inr (by simp)), by rw [h3, h]⟩
    · rintro ⟨x', h1, h2⟩
      rcases List.mem_append.1 h1 with h | h
      · exact .inl ⟨x', h, h2⟩
      · rw [List.mem_singleton] at h
        subst h
        rw [h3] at h2
        injection h2 with h2
        exact .inr h2
theorem ref_num {r : Bs} {i : Nat} {x : Bs × Nat × Nat} {y : Bs × Bs} (h0 : namesX.find? (fun x => x.1.isPrefixOf r) = none) (hx : formsX[i]? = some x) (h1 : ∀ x ∈ formsX.take i, ∃ t, numL x.1 x.2.1 x.2.2 r = .inr t) (h3 : numL x.1 x.2.1 x.2.2 r = .inl y) : refL r = .ok y := by
  unfold refL
  rw [h0]
  simp only
  match i, hx, h1 with
  | 0, hx, _ =>
    injection hx with hx
    subst hx
    simp only at h3
    rw [h3]
  | 1, hx, h1 =>
    injection hx with hx
    subst hx
    obtain ⟨t, ht⟩ := h1 ([38, 35], 10, 7) (by simp [formsX])
    simp only at h3 ht
    rw [ht]
    simp only
    rw [h3]
  | i + 2, hx, _ => simp [formsX] at hx
theorem take_while_drop {p : UInt8 → Bool} (l : Bs) : (l.takeWhile p).length + (l.dropWhile p).length = l.length := by
  rw [← List.length_append, List.takeWhile_append_dropWhile]
theorem take_digs {p : UInt8 → Bool} {l : Bs} {n : Nat} (h : n ≤ (l.takeWhile p).length) : ∀ c ∈ l.take n, p c = true := by
  intro c hc
  have h1 : l.take n = (l.takeWhile p).take n := by
    conv => lhs; rw [← List.takeWhile_append_dropWhile (p := p) (l := l)]
    rw [List.take_append_of_le_length h]
  rw [h1] at hc
  exact List.all_eq_true.1 List.all_takeWhile c (List.mem_of_mem_take hc)

set_option maxHeartbeats 8000000 in
set_option maxRecDepth 100000 in
theorem rref_any {w : World} {b g : Nat} {S : ByteArray} {r : Bs} {pv : Value} (h : RdAt w b S r pv) {nm : ByteArray} {kv : Value} {sd : Bool} {l : Bs} {v : Value} (hB : BdAt w g nm kv sd l v) (hgb : g ≠ b) (hvb : v.ownBlock ≠ some b) (hG : Glob w) (hl : l.length ≤ 100000) :
    Calls Tryz.prog 63 #[.pointer (some ⟨b, 0, none⟩), .pointer (some ⟨g, 3, none⟩)] w (RefOut b g S pv nm kv sd l v (refL r) w) := by
  obtain ⟨a, ha, hs, hd, hh⟩ := h
  have q0 : w.cell? ⟨b, 0, none⟩ = some (.string S) := cell_at hh rfl
  have q1 : w.cell? ⟨b, 1, none⟩ = some (.int .i64 (a : Int)) := cell_at hh rfl
  have hx := xt_ext hd
  have haz : (a : Int) ≤ (S.size : Int) := by omega
  have HH := Lib.hid hh
  have HD := Lib.hid hd
  have HBD := Lib.hid hB
  have HGL := Lib.hid hG
  clear hh hd hB hG
  go_enter Tryz.func63, Tryz.ntmps63
  go_upto_region 0 with (fail)
  go_quiet (fail)
  go_upto_region 3 with (fail)
  obtain ⟨W0, hW0⟩ : ∃ W0, (w.drewN nq).alloc (.cells nmsC 120) = W0 := ⟨_, rfl⟩
  have B0 := Lib.hid (show Below w.heap.size w W0 by rw [← hW0]; exact below_alloc (bel_drewN (Below.refl _ _) _) (Nat.le_refl _) _)
  have N0 := Lib.hid (show W0.heap[w.heap.size]? = some (.cells nmsC 120 (0, 0)) by rw [← hW0]; exact heap_alloc_new (w.drewN nq) _)
  unfold nmsC at hW0
  rw [hW0]
  clear hW0
  go_loopg [5, 31] 5 (fun gg s5 s31 wr => ∃ (i : Nat) (sh : Bool), i ≤ 5 ∧ 5 - i ≤ gg ∧ s5 = .bool sh ∧ s31 = .int .i64 i ∧ Hid (sh = (namesX.take i).any (fun x => r.isPrefixOf x.1)) ∧ Hid ((namesX.take i).find? (fun x => x.1.isPrefixOf r) = none) ∧ Hid (Below w.heap.size w wr) ∧ Hid (wr.heap[w.heap.size]? = some (.cells nmsC 120 (0, 0))))
  case atStart => exact ⟨0, false, by omega, by omega, rfl, rfl, by show _ = _; rfl, by show _ = _; rfl, B0, N0⟩
  case round =>
    obtain ⟨i, sh, hi, hg, rfl, rfl, HSH, HFN, HB, HN⟩ := hrel
    by_cases hlt : i < 5
    · have hiz : (i : Int) < 5 := by omega
      obtain ⟨x, hx0, hx1, hx2, hx3, hx4⟩ := names_at i hlt
      have HXI := Lib.hid hx0
      have HRG : Hid (wr.rangeAt w.heap.size (i * 2) [.string ⟨x.1.toArray⟩, .string ⟨x.2.toArray⟩]) := by
        refine range_of_heap HN.out (fun j v hj => ?_)
        match j with
        | 0 => injection hj with e; rw [← e]; exact hx1
        | 1 => injection hj with e; rw [← e]; exact hx2
        | j + 2 => cases hj
      clear hx0 hx1 hx2
      go_upto_region 5 with (first
        | (refine wpList_load_mid (by rfl) 120 _ (by rfl) w.heap.size (i * 2) (by rfl) [.string ⟨x.1.toArray⟩, .string ⟨x.2.toArray⟩] _ HRG.out Tryz.underlying120 rfl (by kernel_rfl) ?_)
        | (refine wpList_store_rowN (by rfl) 120 _ _ (by rfl) wr.heap.size #[.string ⟨x.1.toArray⟩, .string ⟨x.2.toArray⟩] (by rfl) (by rfl) 120 #[.string ⟨#[]⟩, .string ⟨#[]⟩] (by exact heap_alloc_new _ _) (by kernel_rfl) (by rfl) (by kernel_rfl) (fun W => W.heap[wr.heap.size]? = some (.cells #[.string ⟨x.1.toArray⟩, .string ⟨x.2.toArray⟩] 120 (0, 0)) ∧ Below wr.heap.size wr W) (by rw [setRow_alloc _ _ _ _ _ rfl]; exact ⟨heap_alloc_new _ _, below_alloc (Below.refl _ _) (Nat.le_refl _) _⟩) ?_; rintro W1 h1))
      have HB1 := Lib.hid (HB.out.trans (h1.2.mono HB.out.size))
      have HX1 := Lib.hid h1.1
      have HN1 := Lib.hid ((h1.2.block _ (Array.getElem?_eq_some_iff.1 HN.out).1).trans HN.out)
      have m0 : W1.cell? ⟨wr.heap.size, 0, none⟩ = some (.string ⟨x.1.toArray⟩) := cell_at h1.1 rfl
      have m1 : W1.cell? ⟨wr.heap.size, 1, none⟩ = some (.string ⟨x.2.toArray⟩) := cell_at h1.1 rfl
      have HWR := Lib.hid (Array.getElem?_eq_some_iff.1 HN.out).1
      clear h1 HRG HN HB
      obtain ⟨y, hy⟩ : ∃ y, x.1.isPrefixOf r = y := ⟨_, rfl⟩
      have HY := Lib.hid hy
      have HHP : Hid (∀ W, Calls Tryz.prog 38 #[.string ⟨r.toArray⟩, .string ⟨x.1.toArray⟩] W fun e w' => e = .returned (.bool y) ∧ w' = W) := fun W => by rw [← hy]; exact Tryz.strings_HasPrefix ⟨r.toArray⟩ ⟨x.1.toArray⟩ W
      clear hy
      cases y with
      | true =>
        go_wp2_with fail
        refine (HHP.out _).mono ?_
        rintro e W2 ⟨rfl, rfl⟩
        have HBD1 := Lib.hid (HBD.out.kept (M := fun _ => False) (Chg.of_below HB1.out) id (fun _ _ => id))
        have HWS := Lib.hid (writeString_any g nm kv sd l x.2 v W2 HBD1.out (by omega))
        go_wp2_with fail
        refine (HWS.out).mono ?_
        rintro e W3 ⟨rfl, v', hb3, c3⟩
        have hvl : ∀ k, v.ownBlock = some k → k < w.heap.size := fun k hk => (HBD.out.own.lt k hk).2
        have hgl := HBD.out.lt
        have hbl : b < w.heap.size := (Array.getElem?_eq_some_iff.1 HH.out).1
        have hw1 : w.heap.size ≤ W2.heap.size := HB1.out.size
        have hwr : wr.heap.size < W2.heap.size := (Array.getElem?_eq_some_iff.1 HX1.out).1
        have hwb : w.heap.size < wr.heap.size := HWR.out
        have h3 : W3.heap[b]? = some (.cells (rdC S a (.pointer none) pv) 60 (0, 0)) :=
          (c3.block b (by omega) (by rintro (e | e); exact hgb e.symm; exact hvb e.symm)).trans ((HB1.out.block b hbl).trans HH.out)
        have x3 : W3.heap[wr.heap.size]? = some (.cells #[.string ⟨x.1.toArray⟩, .string ⟨x.2.toArray⟩] 120 (0, 0)) :=
          (c3.block _ hwr (by rintro (e | e); omega; have := hvl _ e.symm; omega)).trans HX1.out
        clear m0 m1
        have p1 : W3.cell? ⟨b, 1, none⟩ = some (.int .i64 (a : Int)) := cell_at h3 rfl
        have m0 : W3.cell? ⟨wr.heap.size, 0, none⟩ = some (.string ⟨x.1.toArray⟩) := cell_at x3 rfl
        have HVB : Hid (v'.ownBlock ≠ some b) := fun e => by
          rcases hb3.own.2 with ⟨hv, _⟩ | ⟨g', cap, cur, hv, _, hh', _⟩
          · rw [hv] at e; cases e
          · rw [hv] at e
            injection e with e
            simp only at e
            subst e
            rw [h3] at hh'
            injection hh' with hh'
            injection hh' with _ ht
            exact absurd ht (by decide)
        have H3 := Lib.hid h3
        have HB3 := Lib.hid hb3
        have C3 := Lib.hid c3
        clear h3 x3 hb3 c3
        go_upto_region 7 with (fail)
        go_still_tail 10, (by kernel_rfl)
        change wpList _ _ _ _ _ W3.drew
        obtain ⟨W4, hW4⟩ : ∃ wd, Hid (W3.drew = wd) := ⟨_, rfl⟩
        rw [hW4.out]
        have h4 : W4.heap[b]? = some (.cells (rdC S a (.pointer none) pv) 60 (0, 0)) := by rw [← hW4.out]; exact H3.out
        have C4 : Hid (Chg W2 W4 (fun k => k = g ∨ some k = v.ownBlock)) := by show Chg _ _ _; rw [← hW4.out]; exact Chg.below_on C3.out (Below.drew (Below.refl _ _))
        have HB4 : Hid (BdAt W4 g nm kv sd (l ++ x.2) v') := by show BdAt _ _ _ _ _ _ _; rw [← hW4.out]; exact HB3.out.kept (M := fun _ => False) (Chg.of_below (Below.drew (Below.refl _ _))) id (fun _ _ => id)
        have f4 : W4.frozen? ⟨b, 1, none⟩ = false := free_of_heap h4
        have p4 : W4.cell? ⟨b, 1, none⟩ = some (.int .i64 (a : Int)) := cell_at h4 rfl
        have H4 := Lib.hid h4
        clear h4 hW4 p1 m0
        have hxl : x.1.length ≤ r.length := (List.isPrefixOf_iff_prefix.1 HY.out).length_le
        have hrl := xt_len HD.out
        go_wp2_with fail
        go_end0
        rw [ref_yes HFN.out HXI.out HY.out]
        refine ⟨rfl, ?_, ⟨a + x.1.length, by omega, hs, by rw [← List.drop_drop, HD.out], at_set H4.out (a + x.1.length)⟩, v', HB4.out.kept (mine_set W4 b 1 _) hgb (fun k hk e => ?_)⟩
        · exact (((Chg.of_below HB1.out).trans (C4.out.mono fun k _ h => h.elim (fun e => .inr (.inl e)) (fun e => .inr (.inr e))))).trans ((mine_set W4 b 1 _).mono fun k _ e => .inl e)
        · have := HVB.out; rw [e] at hk; exact this hk
      | false =>
        obtain ⟨z, hz⟩ : ∃ z, r.isPrefixOf x.1 = z := ⟨_, rfl⟩
        have HZ := Lib.hid hz
        have HHQ : Hid (∀ W, Calls Tryz.prog 38 #[.string ⟨x.1.toArray⟩, .string ⟨r.toArray⟩] W fun e w' => e = .returned (.bool z) ∧ w' = W) := fun W => by rw [← hz]; exact Tryz.strings_HasPrefix ⟨x.1.toArray⟩ ⟨r.toArray⟩ W
        clear hz
        have HFN2 : Hid ((namesX.take (i + 1)).find? (fun x => x.1.isPrefixOf r) = none) := by
          show _ = _
          rw [List.take_add_one, HXI.out, List.find?_append, HFN.out]
          have h5 : List.find? (fun x => x.1.isPrefixOf r) [x] = none := by rw [List.find?_cons, HY.out]; rfl
          show Option.or none (List.find? (fun x => x.1.isPrefixOf r) [x]) = none
          rw [h5]; rfl
        have HSH2 : Hid ((sh || z) = (namesX.take (i + 1)).any (fun x => r.isPrefixOf x.1)) := by
          show _ = _
          rw [List.take_add_one, HXI.out, List.any_append, ← HSH.out, ← HZ.out]
          simp
        cases sh with
        | true =>
          go_wp2_with fail
          refine (HHP.out _).mono ?_
          rintro e W2 ⟨rfl, rfl⟩
          go_wp2_with fail
          go_roundg (5 - (i + 1))
          case measure => omega
          case rel => exact ⟨i + 1, true, by omega, Nat.le_refl _, by rfl, by go_num, HSH2, HFN2, HB1, HN1⟩
        | false =>
          go_wp2_with fail
          refine (HHP.out _).mono ?_
          rintro e W2 ⟨rfl, rfl⟩
          go_wp2_with fail
          refine (HHQ.out _).mono ?_
          rintro e W3 ⟨rfl, rfl⟩
          go_wp2_with fail
          go_roundg (5 - (i + 1))
          case measure => omega
          case rel => exact ⟨i + 1, z, by omega, Nat.le_refl _, by rfl, by go_num, HSH2, HFN2, HB1, HN1⟩
    · obtain rfl : i = 5 := by omega
      have HNN : Hid (namesX.find? (fun x => x.1.isPrefixOf r) = none) := HFN.out
      have HSN : Hid (sh = namesX.any (fun x => r.isPrefixOf x.1)) := HSH.out
      clear HFN HSH N0 B0
      go_upto_region 11 with (fail)
      obtain ⟨W0', hW0⟩ : ∃ W0', wr.alloc (.cells frmC 123) = W0' := ⟨_, rfl⟩
      have B1 := Lib.hid (show Below w.heap.size w W0' by rw [← hW0]; exact HB.out.trans ((below_alloc (Below.refl _ _) (Nat.le_refl _) _).mono HB.out.size))
      have N1 := Lib.hid (show W0'.heap[wr.heap.size]? = some (.cells frmC 123 (0, 0)) by rw [← hW0]; exact heap_alloc_new wr _)
      unfold frmC at hW0
      rw [hW0]
      have HWL : Hid (w.heap.size ≤ wr.heap.size) := HB.out.size
      generalize wr.heap.size = gf at *
      clear hW0 HB HN
      go_loopg [5, 65] 2 (fun gg s5 s65 wr => ∃ (i : Nat) (sh : Bool), i ≤ 2 ∧ 2 - i ≤ gg ∧ s5 = .bool sh ∧ s65 = .int .i64 i ∧ Hid (sh = true ↔ (namesX.any (fun x => r.isPrefixOf x.1) = true ∨ ∃ x ∈ formsX.take i, numL x.1 x.2.1 x.2.2 r = .inr true)) ∧ Hid (∀ x ∈ formsX.take i, ∃ t, numL x.1 x.2.1 x.2.2 r = .inr t) ∧ Hid (Below w.heap.size w wr) ∧ Hid (wr.heap[gf]? = some (.cells frmC 123 (0, 0))))
      case atStart => exact ⟨0, sh, by omega, by omega, rfl, rfl, by show _ ↔ _; rw [HSN.out]; simp, by intro x hx; simp at hx, B1, N1⟩
      case round =>
        obtain ⟨i, sh2, hi2, hg2, rfl, rfl, HSH, HFN, HB, HN⟩ := hrel
        by_cases hlt2 : i < 2
        · have hiz2 : (i : Int) < 2 := by omega
          obtain ⟨x, hx0, hx1, hx2, hx3, hx4, hx5, hx6, hx7, hx8⟩ := forms_at i hlt2
          have HXI := Lib.hid hx0
          have HRG : Hid (wr.rangeAt gf (i * 4) [.string ⟨x.1.toArray⟩, .string ⟨(digs x.2.1).toArray⟩, .int .i64 (x.2.1 : Int), .int .i64 (x.2.2 : Int)]) := by
            refine range_of_heap HN.out (fun j v hj => ?_)
            match j with
            | 0 => injection hj with e; rw [← e]; exact hx1
            | 1 => injection hj with e; rw [← e]; exact hx2
            | 2 => injection hj with e; rw [← e]; exact hx3
            | 3 => injection hj with e; rw [← e]; exact hx4
            | j + 4 => cases hj
          clear hx0 hx1 hx2 hx3 hx4
          go_upto_region 13 with (first
            | (refine wpList_load_mid (by rfl) 123 _ (by rfl) gf (i * 4) (by rfl) [.string ⟨x.1.toArray⟩, .string ⟨(digs x.2.1).toArray⟩, .int .i64 (x.2.1 : Int), .int .i64 (x.2.2 : Int)] _ HRG.out Tryz.underlying123 rfl (by kernel_rfl) ?_)
            | (refine wpList_store_rowN (by rfl) 123 _ _ (by rfl) wr.heap.size #[.string ⟨x.1.toArray⟩, .string ⟨(digs x.2.1).toArray⟩, .int .i64 (x.2.1 : Int), .int .i64 (x.2.2 : Int)] (by rfl) (by rfl) 123 #[.string ⟨#[]⟩, .string ⟨#[]⟩, .int .i64 0, .int .i64 0] (by exact heap_alloc_new _ _) (by kernel_rfl) (by rfl) (by kernel_rfl) (fun W => W.heap[wr.heap.size]? = some (.cells #[.string ⟨x.1.toArray⟩, .string ⟨(digs x.2.1).toArray⟩, .int .i64 (x.2.1 : Int), .int .i64 (x.2.2 : Int)] 123 (0, 0)) ∧ Below wr.heap.size wr W) (by rw [setRow_alloc _ _ _ _ _ rfl]; exact ⟨heap_alloc_new _ _, below_alloc (Below.refl _ _) (Nat.le_refl _) _⟩) ?_; rintro W1 h1))
          have HB1 := Lib.hid (HB.out.trans (h1.2.mono HB.out.size))
          have HX1 := Lib.hid h1.1
          have HN1 := Lib.hid ((h1.2.block _ (Array.getElem?_eq_some_iff.1 HN.out).1).trans HN.out)
          have m0 : W1.cell? ⟨wr.heap.size, 0, none⟩ = some (.string ⟨x.1.toArray⟩) := cell_at h1.1 rfl
          have m1 : W1.cell? ⟨wr.heap.size, 1, none⟩ = some (.string ⟨(digs x.2.1).toArray⟩) := cell_at h1.1 rfl
          have m2 : W1.cell? ⟨wr.heap.size, 2, none⟩ = some (.int .i64 (x.2.1 : Int)) := cell_at h1.1 rfl
          have m3 : W1.cell? ⟨wr.heap.size, 3, none⟩ = some (.int .i64 (x.2.2 : Int)) := cell_at h1.1 rfl
          have HCP := Lib.hid (fun W => Tryz.strings_CutPrefix ⟨r.toArray⟩ ⟨x.1.toArray⟩ W)
          have HWRL := Lib.hid HB.out.size
          clear h1 HRG HN HB
          obtain ⟨y, hy⟩ : ∃ y, x.1.isPrefixOf r = y := ⟨_, rfl⟩
          have HY := Lib.hid hy
          cases y with
          | false =>
            have hcp : ∀ W, Calls Tryz.prog 77 #[.string ⟨r.toArray⟩, .string ⟨x.1.toArray⟩] W fun e w' => e = .returned (.tuple #[.string ⟨r.toArray⟩, .bool false]) ∧ w' = W := fun W => by
              have h1 := HCP.out W
              have h2 : Lib.hasPrefix r x.1 = false := hy
              have h3 : Lib.trimPrefix r x.1 = r := by unfold Lib.trimPrefix; rw [h2]; rfl
              simp only [h2, h3] at h1
              exact h1
            have HCPF := Lib.hid hcp
            have HNL : Hid (numL x.1 x.2.1 x.2.2 r = .inr (r.isPrefixOf x.1)) := by show _ = _; unfold numL; rw [if_neg (by rw [hy]; decide)]
            obtain ⟨z, hz⟩ : ∃ z, r.isPrefixOf x.1 = z := ⟨_, rfl⟩
            rw [hz] at HNL
            have HHQ : Hid (∀ W, Calls Tryz.prog 38 #[.string ⟨x.1.toArray⟩, .string ⟨r.toArray⟩] W fun e w' => e = .returned (.bool z) ∧ w' = W) := fun W => by rw [← hz]; exact Tryz.strings_HasPrefix ⟨x.1.toArray⟩ ⟨r.toArray⟩ W
            clear hcp hy hz HCP
            have HFN2 := Lib.hid (forms_next HXI.out HFN.out HSH.out HNL.out).1
            have HSH2 := Lib.hid (forms_next HXI.out HFN.out HSH.out HNL.out).2
            cases sh2 with
            | true =>
              go_wp2_with fail
              refine (HCPF.out _).mono ?_
              rintro e W2 ⟨rfl, rfl⟩
              go_wp2_with fail
              go_roundg (2 - (i + 1))
              case measure => omega
              case rel => exact ⟨i + 1, true, by omega, Nat.le_refl _, by rfl, by go_num, HSH2, HFN2, HB1, HN1⟩
            | false =>
              go_wp2_with fail
              refine (HCPF.out _).mono ?_
              rintro e W2 ⟨rfl, rfl⟩
              go_wp2_with fail
              refine (HHQ.out _).mono ?_
              rintro e W3 ⟨rfl, rfl⟩
              go_wp2_with fail
              go_roundg (2 - (i + 1))
              case measure => omega
              case rel => exact ⟨i + 1, z, by omega, Nat.le_refl _, by rfl, by go_num, HSH2, HFN2, HB1, HN1⟩
          | true =>
            obtain ⟨tl, htl⟩ : ∃ tl, r.drop x.1.length = tl := ⟨_, rfl⟩
            have HTL := Lib.hid htl
            have hcp : ∀ W, Calls Tryz.prog 77 #[.string ⟨r.toArray⟩, .string ⟨x.1.toArray⟩] W fun e w' => e = .returned (.tuple #[.string ⟨tl.toArray⟩, .bool true]) ∧ w' = W := fun W => by
              have h1 := HCP.out W
              have h2 : Lib.hasPrefix r x.1 = true := hy
              have h3 : Lib.trimPrefix r x.1 = tl := by unfold Lib.trimPrefix; rw [h2, ← htl]; rfl
              simp only [h2, h3] at h1
              exact h1
            have HCPT := Lib.hid hcp
            have HTR := Lib.hid (fun W => trim_any x.2.1 hx5 tl W)
            obtain ⟨dw, hdw⟩ : ∃ dw, tl.dropWhile (digX x.2.1) = dw := ⟨_, rfl⟩
            have HDW := Lib.hid hdw
            rw [hdw] at HTR
            obtain ⟨T, hT⟩ : ∃ T : ByteArray, (⟨tl.toArray⟩ : ByteArray) = T := ⟨_, rfl⟩
            have HTT := Lib.hid hT
            have hTS : T.size = tl.length := by rw [← hT]; exact sz_str tl
            rw [hT] at HCPT HTR
            obtain ⟨k, hk⟩ : ∃ k, (tl.takeWhile (digX x.2.1)).length = k := ⟨_, rfl⟩
            have HKW := Lib.hid hk
            have hkd : k + dw.length = T.size := by rw [← hk, ← hdw, hTS]; exact take_while_drop tl
            have hDS : (⟨dw.toArray⟩ : ByteArray).size = dw.length := sz_str dw
            obtain ⟨D, hD⟩ : ∃ D : ByteArray, (⟨dw.toArray⟩ : ByteArray) = D := ⟨_, rfl⟩
            rw [hD] at hDS HTR
            rw [← hDS] at hkd
            clear hDS
            have htll : T.size ≤ 8000 := by
              rw [hTS, ← htl, List.length_drop, xt_len HD.out]; omega
            clear hcp htl HCP hdw hT hk hD hTS
            have HYT := Lib.hid hy
            clear hy
            go_wp2_with fail
            refine (HCPT.out _).mono ?_
            rintro e W2 ⟨rfl, rfl⟩
            go_wp2_with fail
            refine (HTR.out _).mono ?_
            rintro e W3 ⟨rfl, hb3⟩
            have HB3 := Lib.hid (HB1.out.trans (hb3.mono HB1.out.size))
            have x3 := (hb3.block _ (Array.getElem?_eq_some_iff.1 HX1.out).1).trans HX1.out
            have HN3 := Lib.hid ((hb3.block _ (Array.getElem?_eq_some_iff.1 HN1.out).1).trans HN1.out)
            clear m0 m1 m2 m3
            have m0 : W3.cell? ⟨wr.heap.size, 0, none⟩ = some (.string ⟨x.1.toArray⟩) := cell_at x3 rfl
            have m2 : W3.cell? ⟨wr.heap.size, 2, none⟩ = some (.int .i64 (x.2.1 : Int)) := cell_at x3 rfl
            have m3 : W3.cell? ⟨wr.heap.size, 3, none⟩ = some (.int .i64 (x.2.2 : Int)) := cell_at x3 rfl
            have X3 := Lib.hid x3
            clear x3 hb3
            have hdz : (D.size : Int) ≤ (T.size : Int) := by omega
            go_upto_region 18 with (fail)
            obtain ⟨n, hn⟩ : ∃ n, min k x.2.2 = n := ⟨_, rfl⟩
            have hmn : min ((T.size : Int) - (D.size : Int)) (x.2.2 : Int) = (n : Int) := by omega
            have hnk : n ≤ k := by omega
            have hn7 : n ≤ 7 := by omega
            have hn0 : 0 < k → 0 < n := by omega
            have hnT : n ≤ T.size := by omega
            rw [hmn]
            have HTS : Hid (T.size = tl.length) := by show _ = _; rw [← HTT.out]; exact sz_str tl
            have HNUM : Hid (numL x.1 x.2.1 x.2.2 r = if n = tl.length then .inr true else if 0 < n ∧ tl[n]? = some 59 ∧ knowsX (numX x.2.1 (tl.take n)) then .inl (encX (numX x.2.1 (tl.take n)), tl.drop (n + 1)) else .inr false) := by
              show _ = _
              unfold numL
              rw [if_pos HYT.out]
              simp only [HTL.out, HKW.out, hn]
            have HDG := Lib.hid (take_digs (p := digX x.2.1) (l := tl) (n := n) (by rw [HKW.out]; exact hnk))
            clear hmn hkd hdz hn HTR HDW
            by_cases hnt : n = T.size
            · have HNL : Hid (numL x.1 x.2.1 x.2.2 r = .inr true) := by show _ = _; rw [HNUM.out, if_pos (by rw [hnt]; exact HTS.out)]
              have HNX := Lib.hid (forms_next HXI.out HFN.out HSH.out HNL.out)
              have HNT : Hid (true = true ↔ (namesX.any (fun x => r.isPrefixOf x.1) = true ∨ ∃ x ∈ formsX.take (i + 1), numL x.1 x.2.1 x.2.2 r = .inr true)) := by show _ ↔ _; rw [← HNX.out.2, Bool.or_true]
              have hntz : (n : Int) = (T.size : Int) := by omega
              go_wp2_with fail
              go_roundg (2 - (i + 1))
              case measure => omega
              case rel => exact ⟨i + 1, true, by omega, Nat.le_refl _, by rfl, by go_num, (by show _ ↔ _; exact ⟨fun _ => HNT.out.1 trivial, fun _ => rfl⟩), HNX.out.1, HB3.out, HN3.out⟩
            · have hntz : ¬ (n : Int) = (T.size : Int) := by omega
              have hntlt : (n : Int) < (T.size : Int) := by omega
              have HNO : Hid (¬ n = tl.length) := by show ¬ _; rw [← HTS.out]; exact hnt
              go_upto_region 20 with (fail)
              have HGL3 := Lib.hid (HGL.out.later HB3.out)
              have hmid : T.extract 0 n = ⟨(tl.take n).toArray⟩ := by
                apply ByteArray.ext
                rw [← HTT.out]
                simp
              obtain ⟨Y, hY⟩ : ∃ Y : ByteArray, (⟨(tl.take n).toArray⟩ : ByteArray) = Y := ⟨_, rfl⟩
              rw [hY] at hmid
              have HYY := Lib.hid hY
              clear hY m0 m3
              by_cases hn00 : n = 0
              · have HNL : Hid (numL x.1 x.2.1 x.2.2 r = .inr false) := by show _ = _; rw [HNUM.out, if_neg HNO.out, if_neg (by rintro ⟨h, _⟩; omega)]
                have HNX := Lib.hid (forms_next HXI.out HFN.out HSH.out HNL.out)
                rw [Bool.or_false] at HNX
                have hY0 : (⟨#[]⟩ : ByteArray) = Y := by rw [← HYY.out, hn00]; rfl
                have HPI := Lib.hid (fun W (h : Glob W) => xparseInt_nil (x.2.1 : Int) W h)
                rw [hY0] at HPI
                clear hY0 hn00
                refine wp_region_held_drew (S := (fun W : World => Below W3.heap.size W3 W)) (by kernel_rfl) (Below.refl _ _).drew (fun hS0 => ?_)
                refine wpAnyH_take (i := 0) (oi := { dst := some 102, op := _, type := _, pos := _, after := _, guard := _ }) (v := ?_) rfl (by kernel_rfl) (by kernel_rfl) (by kernel_rfl) (fun _ _ _ h => h) (Or.inl ⟨by kernel_rfl, ?_⟩) (by assumption) ?_
                rotate_left
                · (intro w hSw; (try dsimp only at hSw); go_simp); all_goals (with_reducible rfl)
                try simp only [Act.put, List.setIfInBounds_toArray, List.set_cons_zero, List.set_cons_succ]
                refine wpAnyH_take (i := 1) (oi := { dst := some 103, op := _, type := _, pos := _, after := _, guard := _ }) (v := ?_) rfl (by kernel_rfl) (by kernel_rfl) (by kernel_rfl) (fun _ _ _ h => h) (Or.inl ⟨by kernel_rfl, ?_⟩) (by assumption) ?_
                rotate_left
                · (intro w hSw; (try dsimp only at hSw); go_simp); all_goals (with_reducible rfl)
                try simp only [Act.put, List.setIfInBounds_toArray, List.set_cons_zero, List.set_cons_succ]
                refine wpAnyH_take (i := 2) (oi := { dst := some 104, op := _, type := _, pos := _, after := _, guard := _ }) (v := ?_) rfl (by kernel_rfl) (by kernel_rfl) (by kernel_rfl) (fun _ _ _ h => h) (Or.inl ⟨by kernel_rfl, ?_⟩) (by assumption) ?_
                rotate_left
                · (intro w hSw; (try dsimp only at hSw); go_simp); all_goals (with_reducible rfl)
                try simp only [Act.put, List.setIfInBounds_toArray, List.set_cons_zero, List.set_cons_succ]
                refine wpAnyH_take (i := 3) (oi := { dst := some 105, op := _, type := _, pos := _, after := _, guard := _ }) (v := ?_) rfl (by kernel_rfl) (by kernel_rfl) (by kernel_rfl) (fun _ _ _ h => h) (Or.inl ⟨by kernel_rfl, ?_⟩) (by assumption) ?_
                rotate_left
                · (intro w hSw; (try dsimp only at hSw); go_simp); all_goals (with_reducible rfl)
                try simp only [Act.put, List.setIfInBounds_toArray, List.set_cons_zero, List.set_cons_succ]
                refine wpAnyH_take (i := 4) (oi := { dst := some 106, op := _, type := _, pos := _, after := _, guard := _ }) (v := ?_) rfl (by kernel_rfl) (by kernel_rfl) (by kernel_rfl) (fun _ _ _ h => h) (Or.inl ⟨by kernel_rfl, ?_⟩) (by assumption) ?_
                rotate_left
                · (intro w hSw; (try dsimp only at hSw); have j2 := cell_later hSw m2; go_simp); all_goals (with_reducible rfl)
                try simp only [Act.put, List.setIfInBounds_toArray, List.set_cons_zero, List.set_cons_succ]
                refine wpAnyH_ready (rs := [5]) (by kernel_rfl) (by simp) ?_
                refine (AllReadyH.cons (o := { dst := some 107, op := _, type := _, pos := _, after := _, guard := _ }) rfl (fun K hK => ?_) AllReadyH.nil)
                rw [if_pos (by kernel_rfl)]
                refine wp_call_go Tryz.func79 (by kernel_rfl) (by kernel_rfl) (xs := [.tmp 104, .tmp 106, .const (.int .i64 32)]) (by rfl) (vs := [.string Y, .int .i64 (x.2.1 : Int), .int .i64 32]) (HPI.out _ (HGL3.out.later hS0)) (by rfl) ?_
                rintro e w' ⟨⟨N, rfl⟩, hb⟩
                refine ⟨_, rfl, ?_⟩
                refine hK.out _ w' (hS0.trans (hb.mono hS0.size)) (fun hSe => ?_)
                clear hK K
                try simp only [Act.put, List.setIfInBounds_toArray, List.set_cons_zero, List.set_cons_succ]
                refine wpAnyH_take (i := 6) (oi := { dst := some 101, op := _, type := _, pos := _, after := _, guard := _ }) (v := ?_) rfl (by kernel_rfl) (by kernel_rfl) (by kernel_rfl) (fun _ _ _ h => h) (Or.inl ⟨by kernel_rfl, ?_⟩) (by assumption) ?_
                rotate_left
                · (intro w hSw; (try dsimp only at hSw); go_simp); all_goals (with_reducible rfl)
                try simp only [Act.put, List.setIfInBounds_toArray, List.set_cons_zero, List.set_cons_succ]
                refine wpAnyH_take (i := 7) (oi := { dst := some 108, op := _, type := _, pos := _, after := _, guard := _ }) (v := ?_) rfl (by kernel_rfl) (by kernel_rfl) (by kernel_rfl) (fun _ _ _ h => h) (Or.inl ⟨by kernel_rfl, ?_⟩) (by assumption) ?_
                rotate_left
                · (intro w hSw; (try dsimp only at hSw); go_simp); all_goals (with_reducible rfl)
                try simp only [Act.put, List.setIfInBounds_toArray, List.set_cons_zero, List.set_cons_succ]
                refine wpAnyH_take (i := 8) (oi := { dst := some 109, op := _, type := _, pos := _, after := _, guard := _ }) (v := ?_) rfl (by kernel_rfl) (by kernel_rfl) (by kernel_rfl) (fun _ _ _ h => h) (Or.inl ⟨by kernel_rfl, ?_⟩) (by assumption) ?_
                rotate_left
                · (intro w hSw; (try dsimp only at hSw); go_simp); all_goals (with_reducible rfl)
                try simp only [Act.put, List.setIfInBounds_toArray, List.set_cons_zero, List.set_cons_succ]
                refine wpAnyH_take (i := 9) (oi := { dst := some 13, op := _, type := _, pos := _, after := _, guard := _ }) (v := ?_) rfl (by kernel_rfl) (by kernel_rfl) (by kernel_rfl) (fun _ _ _ h => h) (Or.inl ⟨by kernel_rfl, ?_⟩) (by assumption) ?_
                rotate_left
                · (intro w hSw; (try dsimp only at hSw); go_simp); all_goals (with_reducible rfl)
                try simp only [Act.put, List.setIfInBounds_toArray, List.set_cons_zero, List.set_cons_succ]
                refine wpAnyH_take (i := 10) (oi := { dst := some 14, op := _, type := _, pos := _, after := _, guard := _ }) (v := ?_) rfl (by kernel_rfl) (by kernel_rfl) (by kernel_rfl) (fun _ _ _ h => h) (Or.inl ⟨by kernel_rfl, ?_⟩) (by assumption) ?_
                rotate_left
                · (intro w hSw; (try dsimp only at hSw); go_simp); all_goals (with_reducible rfl)
                try simp only [Act.put, List.setIfInBounds_toArray, List.set_cons_zero, List.set_cons_succ]
                refine wpAnyH_done (by kernel_rfl) ?_ _
                have HB5 := Lib.hid (HB3.out.trans (Below.mono hSe HB3.out.size))
                have HN5 := Lib.hid ((Below.block hSe _ (Array.getElem?_eq_some_iff.1 HN3.out).1).trans HN3.out)
                clear hSe hS0 m2
                go_wp2_with fail
                go_roundg (2 - (i + 1))
                case measure => omega
                case rel => exact ⟨i + 1, sh2, by omega, Nat.le_refl _, by rfl, by go_num, HNX.out.2, HNX.out.1, HB5.out, HN5.out⟩
              · obtain ⟨c, hc⟩ : ∃ c : Int, (numX x.2.1 (tl.take n) : Int) = c := ⟨_, rfl⟩
                have hne : tl.take n ≠ [] := fun e => by
                  have h1 : (tl.take n).length = n := by rw [List.length_take, ← HTS.out]; omega
                  rw [e] at h1; simp only [List.length_nil] at h1; omega
                have h7l : (tl.take n).length ≤ 7 := by rw [List.length_take]; omega
                have HPI : Hid (∀ W, Calls Tryz.prog 79 #[.string Y, .int .i64 (x.2.1 : Int), .int .i64 32] W fun e w' => e = .returned (.tuple #[.int .i64 c, .nilIface]) ∧ Below W.heap.size W w') := fun W => by
                  rw [← HYY.out, ← hc]
                  rcases hx5 with h | h
                  · have h1 := xparseInt_10 (tl.take n) hne h7l (by have := HDG.out; rw [h] at this; exact this) W
                    rw [h]; exact h1
                  · have h1 := xparseInt_16 (tl.take n) hne h7l (by have := HDG.out; rw [h] at this; exact this) W
                    rw [h]; exact h1
                have hcb : (numX x.2.1 (tl.take n)) < 268435456 := numX_small (by omega) _ h7l (fun q hq => by
                  have k1 := dig10_at ⟨q.toNat, q.toNat_lt⟩
                  have k2 := dig_at ⟨q.toNat, q.toNat_lt⟩
                  simp only [UInt8.ofNat_toNat] at k1 k2
                  have hq2 := HDG.out q hq
                  rcases hx5 with h | h
                  · rw [h] at hq2 ⊢; exact (k1 hq2).2.2
                  · rw [h] at hq2 ⊢; exact (k2 hq2).2)
                have hc0 : 0 ≤ c := by omega
                have hc1 : c < 268435456 := by omega
                have HC := Lib.hid hc
                have HKN := Lib.hid (fun W => xknows_any c W)
                clear hne h7l hcb hc
                obtain ⟨tb, htb1, htb2⟩ := xt_at (s := T) (i := n) (by omega)
                have hbT := get_bt T
                have HTN : Hid (tl[n]? = some tb) := by
                  show _ = _
                  have h1 : T.data.toList = tl := by rw [← HTT.out]
                  rw [h1] at htb1
                  have h2 := congrArg (fun l => l[0]?) htb1
                  simpa [List.getElem?_drop] using h2
                have HTB := Lib.hid htb2
                clear htb1 htb2
                refine wp_region_held_drew (S := (fun W : World => Below W3.heap.size W3 W)) (by kernel_rfl) (Below.refl _ _).drew (fun hS0 => ?_)
                refine wpAnyH_take (i := 0) (oi := { dst := some 102, op := _, type := _, pos := _, after := _, guard := _ }) (v := ?_) rfl (by kernel_rfl) (by kernel_rfl) (by kernel_rfl) (fun _ _ _ h => h) (Or.inl ⟨by kernel_rfl, ?_⟩) (by assumption) ?_
                rotate_left
                · (intro w hSw; (try dsimp only at hSw); go_simp); all_goals (with_reducible rfl)
                try simp only [Act.put, List.setIfInBounds_toArray, List.set_cons_zero, List.set_cons_succ]
                refine wpAnyH_take (i := 1) (oi := { dst := some 103, op := _, type := _, pos := _, after := _, guard := _ }) (v := ?_) rfl (by kernel_rfl) (by kernel_rfl) (by kernel_rfl) (fun _ _ _ h => h) (Or.inl ⟨by kernel_rfl, ?_⟩) (by assumption) ?_
                rotate_left
                · (intro w hSw; (try dsimp only at hSw); go_simp); all_goals (with_reducible rfl)
                try simp only [Act.put, List.setIfInBounds_toArray, List.set_cons_zero, List.set_cons_succ]
                refine wpAnyH_take (i := 2) (oi := { dst := some 104, op := _, type := _, pos := _, after := _, guard := _ }) (v := ?_) rfl (by kernel_rfl) (by kernel_rfl) (by kernel_rfl) (fun _ _ _ h => h) (Or.inl ⟨by kernel_rfl, ?_⟩) (by assumption) ?_
                rotate_left
                · (intro w hSw; (try dsimp only at hSw); go_simp); all_goals (with_reducible rfl)
                try simp only [Act.put, List.setIfInBounds_toArray, List.set_cons_zero, List.set_cons_succ]
                refine wpAnyH_take (i := 3) (oi := { dst := some 105, op := _, type := _, pos := _, after := _, guard := _ }) (v := ?_) rfl (by kernel_rfl) (by kernel_rfl) (by kernel_rfl) (fun _ _ _ h => h) (Or.inl ⟨by kernel_rfl, ?_⟩) (by assumption) ?_
                rotate_left
                · (intro w hSw; (try dsimp only at hSw); go_simp); all_goals (with_reducible rfl)
                try simp only [Act.put, List.setIfInBounds_toArray, List.set_cons_zero, List.set_cons_succ]
                refine wpAnyH_take (i := 4) (oi := { dst := some 106, op := _, type := _, pos := _, after := _, guard := _ }) (v := ?_) rfl (by kernel_rfl) (by kernel_rfl) (by kernel_rfl) (fun _ _ _ h => h) (Or.inl ⟨by kernel_rfl, ?_⟩) (by assumption) ?_
                rotate_left
                · (intro w hSw; (try dsimp only at hSw); have j2 := cell_later hSw m2; go_simp); all_goals (with_reducible rfl)
                try simp only [Act.put, List.setIfInBounds_toArray, List.set_cons_zero, List.set_cons_succ]
                refine wpAnyH_ready (rs := [5]) (by kernel_rfl) (by simp) ?_
                refine (AllReadyH.cons (o := { dst := some 107, op := _, type := _, pos := _, after := _, guard := _ }) rfl (fun K hK => ?_) AllReadyH.nil)
                rw [if_pos (by kernel_rfl)]
                refine wp_call_go Tryz.func79 (by kernel_rfl) (by kernel_rfl) (xs := [.tmp 104, .tmp 106, .const (.int .i64 32)]) (by rfl) (vs := [.string Y, .int .i64 (x.2.1 : Int), .int .i64 32]) (HPI.out _) (by rfl) ?_
                rintro e w' ⟨rfl, hb⟩
                refine ⟨_, rfl, ?_⟩
                refine hK.out _ w' (hS0.trans (hb.mono hS0.size)) (fun hSe => ?_)
                clear hK K
                try simp only [Act.put, List.setIfInBounds_toArray, List.set_cons_zero, List.set_cons_succ]
                refine wpAnyH_take (i := 6) (oi := { dst := some 101, op := _, type := _, pos := _, after := _, guard := _ }) (v := ?_) rfl (by kernel_rfl) (by kernel_rfl) (by kernel_rfl) (fun _ _ _ h => h) (Or.inl ⟨by kernel_rfl, ?_⟩) (by assumption) ?_
                rotate_left
                · (intro w hSw; (try dsimp only at hSw); go_simp); all_goals (with_reducible rfl)
                try simp only [Act.put, List.setIfInBounds_toArray, List.set_cons_zero, List.set_cons_succ]
                refine wpAnyH_take (i := 7) (oi := { dst := some 108, op := _, type := _, pos := _, after := _, guard := _ }) (v := ?_) rfl (by kernel_rfl) (by kernel_rfl) (by kernel_rfl) (fun _ _ _ h => h) (Or.inl ⟨by kernel_rfl, ?_⟩) (by assumption) ?_
                rotate_left
                · (intro w hSw; (try dsimp only at hSw); go_simp); all_goals (with_reducible rfl)
                try simp only [Act.put, List.setIfInBounds_toArray, List.set_cons_zero, List.set_cons_succ]
                refine wpAnyH_take (i := 8) (oi := { dst := some 109, op := _, type := _, pos := _, after := _, guard := _ }) (v := ?_) rfl (by kernel_rfl) (by kernel_rfl) (by kernel_rfl) (fun _ _ _ h => h) (Or.inl ⟨by kernel_rfl, ?_⟩) (by assumption) ?_
                rotate_left
                · (intro w hSw; (try dsimp only at hSw); go_simp); all_goals (with_reducible rfl)
                try simp only [Act.put, List.setIfInBounds_toArray, List.set_cons_zero, List.set_cons_succ]
                refine wpAnyH_take (i := 9) (oi := { dst := some 13, op := _, type := _, pos := _, after := _, guard := _ }) (v := ?_) rfl (by kernel_rfl) (by kernel_rfl) (by kernel_rfl) (fun _ _ _ h => h) (Or.inl ⟨by kernel_rfl, ?_⟩) (by assumption) ?_
                rotate_left
                · (intro w hSw; (try dsimp only at hSw); go_simp); all_goals (with_reducible rfl)
                try simp only [Act.put, List.setIfInBounds_toArray, List.set_cons_zero, List.set_cons_succ]
                refine wpAnyH_take (i := 10) (oi := { dst := some 14, op := _, type := _, pos := _, after := _, guard := _ }) (v := ?_) rfl (by kernel_rfl) (by kernel_rfl) (by kernel_rfl) (fun _ _ _ h => h) (Or.inl ⟨by kernel_rfl, ?_⟩) (by assumption) ?_
                rotate_left
                · (intro w hSw; (try dsimp only at hSw); go_simp); all_goals (with_reducible rfl)
                try simp only [Act.put, List.setIfInBounds_toArray, List.set_cons_zero, List.set_cons_succ]
                refine wpAnyH_done (by kernel_rfl) ?_ _
                have HB5 := Lib.hid (HB3.out.trans (Below.mono hSe HB3.out.size))
                have X5 := Lib.hid ((Below.block hSe _ (Array.getElem?_eq_some_iff.1 X3.out).1).trans X3.out)
                have HN5 := Lib.hid ((Below.block hSe _ (Array.getElem?_eq_some_iff.1 HN3.out).1).trans HN3.out)
                generalize w' = W5 at *
                clear hSe hS0 m2
                by_cases h59 : bt T n = 59
                · have htb59 : tb = 59 := by have := HTB.out; rw [h59] at this; exact UInt8.toNat_inj.1 (by show tb.toNat = 59; omega)
                  obtain ⟨kb, hkb⟩ : ∃ kb, knowsX c = kb := ⟨_, rfl⟩
                  rw [hkb] at HKN
                  have HKB := Lib.hid hkb
                  clear hkb
                  cases kb with
                  | false =>
                    have HNL : Hid (numL x.1 x.2.1 x.2.2 r = .inr false) := by show _ = _; rw [HNUM.out, if_neg HNO.out, if_neg (by rintro ⟨_, _, h⟩; rw [HC.out, HKB.out] at h; cases h)]
                    have HNX := Lib.hid (forms_next HXI.out HFN.out HSH.out HNL.out)
                    rw [Bool.or_false] at HNX
                    clear htb59
                    go_wp2_with fail
                    refine (HKN.out _).mono ?_
                    rintro e W6 ⟨rfl, rfl⟩
                    go_wp2_with fail
                    go_roundg (2 - (i + 1))
                    case measure => omega
                    case rel => exact ⟨i + 1, sh2, by omega, Nat.le_refl _, by rfl, by go_num, HNX.out.2, HNX.out.1, HB5.out, HN5.out⟩
                  | true =>
                    have HRF : Hid (refL r = .ok (encX c, tl.drop (n + 1))) := by
                      refine ref_num HNN.out HXI.out HFN.out ?_
                      rw [HNUM.out, if_neg HNO.out, if_pos ⟨by omega, by rw [HTN.out, htb59], by rw [HC.out]; exact HKB.out⟩, HC.out]
                    clear htb59
                    have HBD5 := Lib.hid (HBD.out.kept (M := fun _ => False) (Chg.of_below HB5.out) id (fun _ _ => id))
                    have HWS := Lib.hid (writeRune_any g nm kv sd l c (by omega) (by omega) v W5 HBD5.out (by omega))
                    go_wp2_with fail
                    refine (HKN.out _).mono ?_
                    rintro e W6 ⟨rfl, rfl⟩
                    go_wp2_with fail
                    refine (HWS.out).mono ?_
                    rintro e W7 ⟨⟨q, rfl⟩, v', hb7, c7⟩
                    have hvl : ∀ k, v.ownBlock = some k → k < w.heap.size := fun k hk => (HBD.out.own.lt k hk).2
                    have hgl := HBD.out.lt
                    have hbl : b < w.heap.size := (Array.getElem?_eq_some_iff.1 HH.out).1
                    have hw1 : w.heap.size ≤ W6.heap.size := HB5.out.size
                    have hwr : wr.heap.size < W6.heap.size := (Array.getElem?_eq_some_iff.1 X5.out).1
                    have hwb : w.heap.size ≤ wr.heap.size := HWRL.out
                    have h7 : W7.heap[b]? = some (.cells (rdC S a (.pointer none) pv) 60 (0, 0)) :=
                      (c7.block b (by omega) (by rintro (e | e); exact hgb e.symm; exact hvb e.symm)).trans ((HB5.out.block b hbl).trans HH.out)
                    have x7 : W7.heap[wr.heap.size]? = some (.cells #[.string ⟨x.1.toArray⟩, .string ⟨(digs x.2.1).toArray⟩, .int .i64 (x.2.1 : Int), .int .i64 (x.2.2 : Int)] 123 (0, 0)) :=
                      (c7.block _ hwr (by rintro (e | e); omega; have := hvl _ e.symm; omega)).trans X5.out
                    have p1 : W7.cell? ⟨b, 1, none⟩ = some (.int .i64 (a : Int)) := cell_at h7 rfl
                    have m0 : W7.cell? ⟨wr.heap.size, 0, none⟩ = some (.string ⟨x.1.toArray⟩) := cell_at x7 rfl
                    have HVB : Hid (v'.ownBlock ≠ some b) := fun e => by
                      rcases hb7.own.2 with ⟨hv, _⟩ | ⟨g', cap, cur, hv, _, hh', _⟩
                      · rw [hv] at e; cases e
                      · rw [hv] at e
                        injection e with e
                        simp only at e
                        subst e
                        rw [h7] at hh'
                        injection hh' with hh'
                        injection hh' with _ ht
                        exact absurd ht (by decide)
                    have H7 := Lib.hid h7
                    have HB7 := Lib.hid hb7
                    have C7 := Lib.hid c7
                    clear h7 x7 hb7 c7
                    go_upto_region 23 with (fail)
                    go_still_tail 12, (by kernel_rfl)
                    change wpList _ _ _ _ _ W7.drew
                    obtain ⟨W8, hW8⟩ : ∃ wd, Hid (W7.drew = wd) := ⟨_, rfl⟩
                    rw [hW8.out]
                    have h8 : W8.heap[b]? = some (.cells (rdC S a (.pointer none) pv) 60 (0, 0)) := by rw [← hW8.out]; exact H7.out
                    have C8 : Hid (Chg W6 W8 (fun k => k = g ∨ some k = v.ownBlock)) := by show Chg _ _ _; rw [← hW8.out]; exact Chg.below_on C7.out (Below.drew (Below.refl _ _))
                    have HB8 : Hid (BdAt W8 g nm kv sd (l ++ Lib.encodeRune c) v') := by show BdAt _ _ _ _ _ _ _; rw [← hW8.out]; exact HB7.out.kept (M := fun _ => False) (Chg.of_below (Below.drew (Below.refl _ _))) id (fun _ _ => id)
                    have f8 : W8.frozen? ⟨b, 1, none⟩ = false := free_of_heap h8
                    have p8 : W8.cell? ⟨b, 1, none⟩ = some (.int .i64 (a : Int)) := cell_at h8 rfl
                    have H8 := Lib.hid h8
                    clear h8 hW8 p1 m0
                    have hxl : x.1.length ≤ r.length := pre_len HYT.out
                    have hrl := xt_len HD.out
                    have htl2 : tl.length = r.length - x.1.length := by rw [← HTL.out, List.length_drop]
                    have hts2 := HTS.out
                    go_wp2_with fail
                    go_end0
                    rw [HRF.out]
                    refine ⟨rfl, ?_, ⟨a + (x.1.length + n + 1), by omega, hs, ?_, at_set H8.out (a + (x.1.length + n + 1))⟩, v', HB8.out.kept (mine_set W8 b 1 _) hgb (fun k hk e => ?_)⟩
                    · exact (((Chg.of_below HB5.out).trans (C8.out.mono fun k _ h => h.elim (fun e => .inr (.inl e)) (fun e => .inr (.inr e))))).trans ((mine_set W8 b 1 _).mono fun k _ e => .inl e)
                    · rw [← List.drop_drop, HD.out, ← HTL.out, List.drop_drop, show x.1.length + n + 1 = x.1.length + (n + 1) from by omega]
                    · have := HVB.out; rw [e] at hk; exact this hk
                · have h59n : ¬ bt T n = 59 := h59
                  have HNL : Hid (numL x.1 x.2.1 x.2.2 r = .inr false) := by
                    show _ = _
                    rw [HNUM.out, if_neg HNO.out, if_neg]
                    rintro ⟨_, h, _⟩
                    rw [HTN.out] at h
                    injection h with h
                    have := HTB.out
                    rw [h] at this
                    exact h59 this
                  have HNX := Lib.hid (forms_next HXI.out HFN.out HSH.out HNL.out)
                  rw [Bool.or_false] at HNX
                  go_wp2_with fail
                  go_roundg (2 - (i + 1))
                  case measure => omega
                  case rel => exact ⟨i + 1, sh2, by omega, Nat.le_refl _, by rfl, by go_num, HNX.out.2, HNX.out.1, HB5.out, HN5.out⟩
        · obtain rfl : i = 2 := by omega
          have hq := (HB.out.block b (Array.getElem?_eq_some_iff.1 HH.out).1).trans HH.out
          have q0 : wr.cell? ⟨b, 0, none⟩ = some (.string S) := cell_at hq rfl
          have q1 : wr.cell? ⟨b, 1, none⟩ = some (.int .i64 (a : Int)) := cell_at hq rfl
          have HRN := Lib.hid (ref_no HNN.out HFN.out HSH.out)
          cases sh2 with
          | true =>
            have HF := Lib.hid (rfail_any (r := r) ⟨a, ha, hs, HD.out, hq⟩ 55 0 (Nat.zero_le _))
            rw [show ((S.size : Int) - ((0 : Nat) : Int)) = (S.size : Int) from by omega] at HF
            clear hq
            go_wp2_with fail
            refine (HF.out).mono ?_
            rintro e W5 ⟨rfl, h5, m5⟩
            go_wp2_with fail
            go_end0
            rw [HRN.out]
            exact ⟨rfl, (Chg.of_below HB.out).trans (m5.mono fun _ _ e => .inl e), h5⟩
          | false =>
            have HF := Lib.hid (rfail_at ha hs HD.out b pv 55 wr hq)
            clear hq
            go_wp2_with fail
            refine (HF.out).mono ?_
            rintro e W5 ⟨rfl, h5, m5⟩
            go_wp2_with fail
            go_end0
            rw [HRN.out]
            exact ⟨rfl, (Chg.of_below HB.out).trans (m5.mono fun _ _ e => .inl e), h5⟩
end Go.Proofs.YtgmgghbocidibaaGreatDoor
