/-
  xml's reader: attributes.
-/
import Derived.Test.YtgmgghbocidibaaGreatDoorXmAny
import Derived.StillTailTactics
namespace Go.Proofs.YtgmgghbocidibaaGreatDoor
open Go.RowKit Go.Lib Go.PlainAid

theorem pre_one {x : UInt8} {r : Bs} : [x].isPrefixOf r = true ↔ r.head? = some x := by
  cases r with
  | nil => simp
  | cons c t => simp [List.isPrefixOf]; exact eq_comm
theorem idx_drop (q : UInt8) : ∀ l : Bs, (Lib.indexAny l [60, q] = -1 ∧ l.dropWhile (fun b => b ≠ 60 && b ≠ q) = []) ∨ ∃ n : Nat, Lib.indexAny l [60, q] = (n : Int) ∧ n ≤ l.length ∧ l.dropWhile (fun b => b ≠ 60 && b ≠ q) = l.drop n
  | [] => .inl ⟨rfl, rfl⟩
  | b :: l => by
    have h0 : [60, q].contains b = !(decide (b ≠ 60) && decide (b ≠ q)) := by
      rw [Bool.eq_iff_iff]
      simp
    unfold Lib.indexAny
    rw [List.dropWhile_cons, h0]
    cases hc : (decide (b ≠ 60) && decide (b ≠ q)) with
    | false => exact .inr ⟨0, rfl, Nat.zero_le _, rfl⟩
    | true =>
      simp only [Bool.not_true, Bool.false_eq_true, if_false, if_true]
      rcases idx_drop q l with ⟨h1, h2⟩ | ⟨n, h1, h2, h3⟩
      · left; rw [h1]; exact ⟨rfl, h2⟩
      · right
        refine ⟨n + 1, ?_, by simp only [List.length_cons]; omega, by rw [h3]; rfl⟩
        rw [h1, if_neg (by rw [beq_iff_eq]; omega)]
        rfl
theorem colon_at (c : UInt8) : decide (0 ≤ Lib.indexByte [58] c) = (true && decide (c = 58)) := by
  unfold Lib.indexByte
  by_cases h : c = 58
  · subst h; rfl
  · have : ((58 : UInt8) == c) = false := by rw [beq_eq_false_iff_ne]; exact fun e => h e.symm
    rw [this, if_neg (by decide)]
    simp [Lib.indexByte, h]
theorem skip_same {r : Bs} (h : (skipL r).length = r.length) : skipL r = r := (List.dropWhile_sublist _).eq_of_length h
def stGas : R Bs → Nat
  | .ok r => r.length + 1
  | .error _ => 0

set_option maxHeartbeats 8000000 in
set_option maxRecDepth 100000 in
theorem rattrs_any {w : World} {b : Nat} {S : ByteArray} {r : Bs} {pv : Value} (h : RdAt w b S r pv) (F : Nat) (hF : r.length < F) :
    Calls Tryz.prog 59 #[.pointer (some ⟨b, 0, none⟩)] w (RdOut b S pv (attrsL F r) w) := by
  have HH := Lib.hid h
  have hsz : S.size ≤ 8000 := by obtain ⟨a, -, hs, -⟩ := h; exact hs
  clear h
  go_enter Tryz.func59, Tryz.ntmps59
  go_wp2_with fail
  go_loopg [] (r.length + 1) (fun gg wr => ∃ (st : R Bs) (f : Nat), Hid (RdSt wr b S pv st) ∧ Hid (attrsL F r = st.bind (attrsL f)) ∧ Hid (∀ r', st = .ok r' → r'.length < f) ∧ stGas st ≤ gg ∧ Hid (Mine b w wr))
  case atStart => exact ⟨.ok r, F, HH, by show _ = _; rfl, fun r' e => by injection e with e; subst e; exact hF, Nat.le_refl _, Chg.refl _ _⟩
  case round =>
    obtain ⟨st, f, HS, HE, HLT, hg, HM⟩ := hrel
    cases st with
    | error e =>
      obtain ⟨a, g, ha, hs, hk, hh, hg2, hgb⟩ := HS.out
      have q2 : wr.cell? ⟨b, 2, none⟩ = some (.pointer (some ⟨g, 0, none⟩)) := cell_at hh rfl
      clear hh hg2
      go_wp2_with fail
      go_end0
      rw [HE.out]
      exact ⟨rfl, HS.out, HM.out⟩
    | ok r' =>
      have hlf := HLT.out r' rfl
      obtain ⟨f, rfl⟩ : ∃ f', f = f' + 1 := ⟨f - 1, by omega⟩
      obtain ⟨a, ha, hs, hd, hh⟩ := HS.out
      have q2 : wr.cell? ⟨b, 2, none⟩ = some (.pointer none) := cell_at hh rfl
      clear hh hd
      have HBL := Lib.hid (rblanks_any HS.out)
      obtain ⟨d, hd⟩ : ∃ d : Int, (r'.length : Int) - (skipL r').length = d := ⟨_, rfl⟩
      have HD : Hid ((r'.length : Int) - (skipL r').length = d) := hd
      rw [hd] at HBL
      clear hd
      go_wp2_with fail
      refine (HBL.out).mono ?_
      rintro e W1 ⟨rfl, h1, m1⟩
      have HR1 := Lib.hid h1
      have HM1 := Lib.hid (HM.out.trans m1)
      have HA1 := Lib.hid (fun p => rahead_any h1 p)
      clear h1 m1 q2 HBL
      have hU : Hid (attrsL F r = if (skipL r').head? = some 47 ∨ (skipL r').head? = some 62 then .ok (skipL r') else if (skipL r').length = r'.length then .error (55, r'.length) else (attrL (skipL r')).bind (attrsL f)) := HE.out
      have HSK := Lib.hid (@skip_same r')
      have HSL := Lib.hid (skip_len r')
      generalize skipL r' = r1 at *
      obtain ⟨x1, hx1⟩ : ∃ x, [47].isPrefixOf r1 = x := ⟨_, rfl⟩
      have HX1 := Lib.hid hx1
      have HA1' : Hid (Calls Tryz.prog 26 #[.pointer (some ⟨b, 0, none⟩), .string ⟨#[47]⟩] W1 fun e w' => e = .returned (.bool x1) ∧ Below W1.heap.size W1 w') := by have := HA1.out [47]; rw [hx1] at this; exact this
      clear hx1
      go_wp2_with fail
      refine (HA1'.out).mono ?_
      rintro e W2 ⟨rfl, hb2⟩
      have HR2 := Lib.hid (HR1.out.later hb2)
      have HM2 := Lib.hid (Chg.below_on HM1.out hb2)
      clear hb2 HA1' HA1
      cases x1 with
      | true =>
        go_wp2_with fail
        go_end0
        rw [hU.out, if_pos (.inl (pre_one.1 HX1.out))]
        exact ⟨rfl, HR2.out, HM2.out⟩
      | false =>
        obtain ⟨x2, hx2⟩ : ∃ x, [62].isPrefixOf r1 = x := ⟨_, rfl⟩
        have HX2 := Lib.hid hx2
        have HA2 : Hid (Calls Tryz.prog 26 #[.pointer (some ⟨b, 0, none⟩), .string ⟨#[62]⟩] W2 fun e w' => e = .returned (.bool x2) ∧ Below W2.heap.size W2 w') := by have := rahead_any HR2.out [62]; rw [hx2] at this; exact this
        clear hx2
        go_wp2_with fail
        refine (HA2.out).mono ?_
        rintro e W3 ⟨rfl, hb3⟩
        have HR3 := Lib.hid (HR2.out.later hb3)
        have HM3 := Lib.hid (Chg.below_on HM2.out hb3)
        clear hb3 HA2
        cases x2 with
        | true =>
          go_wp2_with fail
          go_end0
          rw [hU.out, if_pos (.inr (pre_one.1 HX2.out))]
          exact ⟨rfl, HR3.out, HM3.out⟩
        | false =>
          have HU2 : Hid (attrsL F r = if r1.length = r'.length then .error (55, r'.length) else (attrL r1).bind (attrsL f)) := by
            show _ = _
            rw [hU.out, if_neg]
            rintro (h | h)
            · have := pre_one.2 h; rw [HX1.out] at this; cases this
            · have := pre_one.2 h; rw [HX2.out] at this; cases this
          obtain ⟨a3, ha3, hs3, hd3, hh3⟩ := HR3.out
          by_cases hl : r1.length = r'.length
          · obtain rfl : d = 0 := by have := HD.out; omega
            have q1 : W3.cell? ⟨b, 1, none⟩ = some (.int .i64 (a3 : Int)) := cell_at hh3 rfl
            have HF := Lib.hid (rfail_at ha3 hs3 hd3 b pv 55 W3 hh3)
            have HN : Hid (attrsL F r = .error (55, r1.length)) := by show _ = _; rw [HU2.out, if_pos hl, hl]
            clear hh3 hd3
            go_wp2_with fail
            refine (HF.out).mono ?_
            rintro e W4 ⟨rfl, h4, m4⟩
            go_wp2_with fail
            go_end0
            rw [HN.out]
            exact ⟨rfl, h4, HM3.out.trans m4⟩
          · have hdz : (d == 0) = false := by rw [beq_eq_false_iff_ne]; have := HD.out; omega
            have HU3 : Hid (attrsL F r = (attrL r1).bind (attrsL f)) := by show _ = _; rw [HU2.out, if_neg hl]
            have HNM := Lib.hid (rname_any HR3.out true [58] colon_at)
            clear hh3 hd3 hU HU2 HX1 HX2
            go_wp2_with fail
            refine (HNM.out).mono ?_
            rintro e W4 ⟨m4, h4⟩
            have HM4 := Lib.hid (HM3.out.trans m4)
            clear m4 HNM
            obtain ⟨v4, hv4, HS4⟩ : ∃ v, e = .returned v ∧ Hid (RdSt W4 b S pv ((nameL true r1).map (·.2))) := by
              cases hn : nameL true r1 with
              | error y => rw [hn] at h4; exact ⟨_, h4.1, h4.2⟩
              | ok y => rw [hn] at h4; exact ⟨_, h4.1, h4.2⟩
            subst hv4
            clear h4
            have HW4 := Lib.hid (rwant_st HS4.out [61] (by simp))
            go_wp2_with fail
            refine (HW4.out).mono ?_
            rintro e W5 ⟨rfl, h5, m5⟩
            have HM5 := Lib.hid (HM4.out.trans m5)
            have HAT : Hid (attrL r1 = (((nameL true r1).map (·.2)).bind (wantL [61])).bind fun r3 => match r3 with
              | [] => .error (55, 0)
              | q :: r4 => if q = 34 ∨ q = 39 then wantL [q] (r4.dropWhile (fun b => b ≠ 60 && b ≠ q)) else .error (55, r3.length)) := by
              show _ = _
              unfold attrL
              cases nameL true r1 <;> rfl
            clear m5 HW4 HS4
            generalize ((nameL true r1).map (·.2)).bind (wantL [61]) = st5 at *
            cases st5 with
            | error y =>
              have HS5 := Lib.hid h5
              obtain ⟨a5, g5, -, -, -, hh5, -, -⟩ := h5
              have q2 : W5.cell? ⟨b, 2, none⟩ = some (.pointer (some ⟨g5, 0, none⟩)) := cell_at hh5 rfl
              clear hh5
              go_wp2_with fail
              go_end0
              have : attrsL F r = .error y := by rw [HU3.out, HAT.out]; rfl
              rw [this]
              exact ⟨rfl, HS5.out, HM5.out⟩
            | ok r3 =>
              have HR5 : Hid (RdAt W5 b S r3 pv) := h5
              obtain ⟨a5, ha5, hs5, hd5, hh5⟩ := h5
              have q2 : W5.cell? ⟨b, 2, none⟩ = some (.pointer none) := cell_at hh5 rfl
              clear hh5 hd5
              obtain ⟨y1, hy1⟩ : ∃ x, [34].isPrefixOf r3 = x := ⟨_, rfl⟩
              have HY1 := Lib.hid hy1
              have HA5 : Hid (Calls Tryz.prog 26 #[.pointer (some ⟨b, 0, none⟩), .string ⟨#[34]⟩] W5 fun e w' => e = .returned (.bool y1) ∧ Below W5.heap.size W5 w') := by have := rahead_any HR5.out [34]; rw [hy1] at this; exact this
              clear hy1
              go_wp2_with fail
              refine (HA5.out).mono ?_
              rintro e W6 ⟨rfl, hb6⟩
              have HR6 := Lib.hid (HR5.out.later hb6)
              have HM6 := Lib.hid (Chg.below_on HM5.out hb6)
              clear hb6 HA5 q2
              cases y1 with
              | true =>
                obtain ⟨r4, rfl⟩ : ∃ r4, r3 = 34 :: r4 := by
                  cases r3 with
                  | nil => cases HY1.out
                  | cons c t => have := pre_one.1 HY1.out; injection this with e; exact ⟨t, by rw [e]⟩
                have HAQ : Hid (attrL r1 = wantL [34] (r4.dropWhile (fun b => b ≠ 60 && b ≠ 34))) := by show _ = _; rw [HAT.out]; rfl
                obtain ⟨a6, ha6, hs6, hd6, hh6⟩ := HR6.out
                have q0 : W6.cell? ⟨b, 0, none⟩ = some (.string S) := cell_at hh6 rfl
                have q1 : W6.cell? ⟨b, 1, none⟩ = some (.int .i64 (a6 : Int)) := cell_at hh6 rfl
                have f1 : W6.frozen? ⟨b, 1, none⟩ = false := free_of_heap hh6
                obtain ⟨hz1, -, hz3⟩ := xt_cons hd6
                have hx : S.extract a6 (a6 + 1) = ⟨#[34]⟩ := (xt_mid (n := 1) hd6).trans rfl
                have hx2 : S.extract (a6 + 1) S.size = ⟨r4.toArray⟩ := xt_ext hz3
                have hcat : (⟨#[60]⟩ ++ ⟨#[34]⟩ : ByteArray) = ⟨#[60, 34]⟩ := rfl
                have hw : IntKind.i64.wrap ((a6 : Int) + 1) = (a6 : Int) + 1 := Go.wrap_small _ (by omega) (by omega)
                have hle1 : (a6 : Int) + 1 ≤ (S.size : Int) := by omega
                have hle0 : (0 : Int) ≤ (a6 : Int) + 1 := by omega
                have hle2 : a6 + 1 ≤ S.size := by omega
                have HZ3 := Lib.hid hz3
                have HH6 := Lib.hid hh6
                have HL4 : Hid (r4.length = S.size - (a6 + 1)) := xt_len hz3
                have HIA : Hid (∀ W, Calls Tryz.prog 74 #[.string ⟨r4.toArray⟩, .string ⟨#[60, 34]⟩] W fun e w' => e = .returned (.int .i64 (Lib.indexAny r4 [60, 34])) ∧ Below W.heap.size W w') := fun W => indexAny_two 34 (by decide) ⟨r4.toArray⟩ (by rw [sz_str, HL4.out]; omega) W
                clear hd6 hh6 hz3
                go_upto_region 10 with (fail)
                go_quiet (fail)
                go_upto_region 12 with (fail)
                have h7 : ((W6.drewN nq).setCell ⟨b, 1, none⟩ (.int .i64 ((a6 : Int) + 1))).heap[b]? = some (.cells (rdC S (a6 + 1) (.pointer none) pv) 60 (0, 0)) := at_set (w := W6.drewN nq) HH6.out (a6 + 1)
                have m7 : Mine b w ((W6.drewN nq).setCell ⟨b, 1, none⟩ (.int .i64 ((a6 : Int) + 1))) := (mine_drewN _ HM6.out).trans (mine_set _ _ _ _)
                generalize (W6.drewN nq).setCell ⟨b, 1, none⟩ (.int .i64 ((a6 : Int) + 1)) = W7 at *
                clear q0 q1 f1
                have q0 : W7.cell? ⟨b, 0, none⟩ = some (.string S) := cell_at h7 rfl
                have q1 : W7.cell? ⟨b, 1, none⟩ = some (.int .i64 ((a6 : Int) + 1)) := cell_at h7 rfl
                have H7 := Lib.hid h7
                have M7 := Lib.hid m7
                clear h7 m7
                go_still_tail 11, (by kernel_rfl)
                change wpList _ _ _ _ _ W7.drew
                obtain ⟨W8, hW8⟩ : ∃ wd, Hid (W7.drew = wd) := ⟨_, rfl⟩
                rw [hW8.out]
                have H8 : Hid (W8.heap[b]? = some (.cells (rdC S (a6 + 1) (.pointer none) pv) 60 (0, 0))) := by show _ = _; rw [← hW8.out]; exact H7.out
                have M8 : Hid (Mine b w W8) := by show Chg _ _ _; rw [← hW8.out]; exact Chg.below_on M7.out (Below.drew (Below.refl _ _))
                clear hW8 q0 q1
                go_wp2_with fail
                refine (HIA.out W8).mono ?_
                rintro e W9 ⟨rfl, hb9⟩
                have h9 := (hb9.block b (Array.getElem?_eq_some_iff.1 H8.out).1).trans H8.out
                have q0 : W9.cell? ⟨b, 0, none⟩ = some (.string S) := cell_at h9 rfl
                have q1 : W9.cell? ⟨b, 1, none⟩ = some (.int .i64 ((a6 : Int) + 1)) := cell_at h9 rfl
                have f1 : W9.frozen? ⟨b, 1, none⟩ = false := free_of_heap h9
                have H9 := Lib.hid h9
                have M9 := Lib.hid (Chg.below_on M8.out hb9)
                clear h9 hb9
                have HG : ∀ st, attrL r1 = st → stGas st < gk := fun st hst => by
                  have hg' : r'.length + 1 ≤ gk := hg
                  cases st with
                  | error e => show 0 < gk; omega
                  | ok r2 => have h1 := attr_len hst; have h2 := HSL.out; show r2.length + 1 < gk; omega
                have HGL : ∀ r2, attrL r1 = .ok r2 → r2.length < f := fun r2 hst => by
                  have h1 := attr_len hst; have h2 := HSL.out; omega
                have HGH := Lib.hid HG
                have HGLH := Lib.hid HGL
                clear HG HGL
                rcases idx_drop 34 r4 with ⟨i1, i2⟩ | ⟨n, i1, i2, i3⟩
                · have HI2 := Lib.hid i2
                  rw [i1]
                  clear i1 i2
                  have HWT := Lib.hid (rwant_any (w := W9.setCell ⟨b, 1, none⟩ (.int .i64 (S.size : Int))) (b := b) (S := S) (r := []) (pv := pv) ⟨S.size, Nat.le_refl _, hs6, List.drop_of_length_le (by rw [Array.length_toList]; exact Nat.le_refl _), at_set H9.out S.size⟩ [34] (by simp))
                  go_wp2_with fail
                  refine (HWT.out).mono ?_
                  rintro e W10 ⟨rfl, h10, m10⟩
                  have HAF : Hid (attrL r1 = wantL [34] []) := by show _ = _; rw [HAQ.out, HI2.out]
                  have M10 := Lib.hid ((M9.out.trans (mine_set _ _ _ _)).trans m10)
                  have H10 := Lib.hid h10
                  clear h10 m10
                  go_wp2_with fail
                  go_roundg (stGas (wantL [34] []))
                  case measure => exact HGH.out _ HAF.out
                  case rel => exact ⟨wantL [34] [], f, H10, by show _ = _; rw [HU3.out, HAF.out], fun r2 e => HGLH.out r2 (HAF.out.trans e), Nat.le_refl _, M10⟩
                · have HI3 := Lib.hid i3
                  rw [i1]
                  clear i1 i3
                  have hn0 : (0 : Int) ≤ (n : Int) := by omega
                  have hw2 : (a6 : Int) + 1 + (n : Int) ≤ 8000 := by have := HL4.out; omega
                  have HWT : Hid (Calls Tryz.prog 27 #[.pointer (some ⟨b, 0, none⟩), .string ⟨#[34]⟩] (W9.setCell ⟨b, 1, none⟩ (.int .i64 ((a6 : Int) + 1 + (n : Int)))) (RdOut b S pv (wantL [34] (r4.drop n)) (W9.setCell ⟨b, 1, none⟩ (.int .i64 ((a6 : Int) + 1 + (n : Int)))))) := rwant_any (w := W9.setCell ⟨b, 1, none⟩ (.int .i64 ((a6 : Int) + 1 + (n : Int)))) (b := b) (S := S) (r := r4.drop n) (pv := pv) ⟨a6 + 1 + n, by have := HL4.out; omega, hs6, by rw [← List.drop_drop, HZ3.out], at_set (w := W9) H9.out (a6 + 1 + n)⟩ [34] (by simp)
                  go_wp2_with fail
                  refine (HWT.out).mono ?_
                  rintro e W10 ⟨rfl, h10, m10⟩
                  have HAF : Hid (attrL r1 = wantL [34] (r4.drop n)) := by show _ = _; rw [HAQ.out, HI3.out]
                  have M10 := Lib.hid ((M9.out.trans (mine_set _ _ _ _)).trans m10)
                  have H10 := Lib.hid h10
                  clear h10 m10
                  go_wp2_with fail
                  go_roundg (stGas (wantL [34] (r4.drop n)))
                  case measure => exact HGH.out _ HAF.out
                  case rel => exact ⟨wantL [34] (r4.drop n), f, H10, by show _ = _; rw [HU3.out, HAF.out], fun r2 e => HGLH.out r2 (HAF.out.trans e), Nat.le_refl _, M10⟩
              | false =>
                obtain ⟨y2, hy2⟩ : ∃ x, [39].isPrefixOf r3 = x := ⟨_, rfl⟩
                have HY2 := Lib.hid hy2
                have HA6 : Hid (Calls Tryz.prog 26 #[.pointer (some ⟨b, 0, none⟩), .string ⟨#[39]⟩] W6 fun e w' => e = .returned (.bool y2) ∧ Below W6.heap.size W6 w') := by have := rahead_any HR6.out [39]; rw [hy2] at this; exact this
                clear hy2
                go_wp2_with fail
                refine (HA6.out).mono ?_
                rintro e W66 ⟨rfl, hb66⟩
                have HR66 := Lib.hid (HR6.out.later hb66)
                have HM66 := Lib.hid (Chg.below_on HM6.out hb66)
                clear hb66 HA6 HR6 HM6
                cases y2 with
                | true =>
                  obtain ⟨r4, rfl⟩ : ∃ r4, r3 = 39 :: r4 := by
                    cases r3 with
                    | nil => cases HY2.out
                    | cons c t => have := pre_one.1 HY2.out; injection this with e; exact ⟨t, by rw [e]⟩
                  have HAQ : Hid (attrL r1 = wantL [39] (r4.dropWhile (fun b => b ≠ 60 && b ≠ 39))) := by show _ = _; rw [HAT.out]; rfl
                  obtain ⟨a6, ha6, hs6, hd6, hh6⟩ := HR66.out
                  have q0 : W66.cell? ⟨b, 0, none⟩ = some (.string S) := cell_at hh6 rfl
                  have q1 : W66.cell? ⟨b, 1, none⟩ = some (.int .i64 (a6 : Int)) := cell_at hh6 rfl
                  have f1 : W66.frozen? ⟨b, 1, none⟩ = false := free_of_heap hh6
                  obtain ⟨hz1, -, hz3⟩ := xt_cons hd6
                  have hx : S.extract a6 (a6 + 1) = ⟨#[39]⟩ := (xt_mid (n := 1) hd6).trans rfl
                  have hx2 : S.extract (a6 + 1) S.size = ⟨r4.toArray⟩ := xt_ext hz3
                  have hcat : (⟨#[60]⟩ ++ ⟨#[39]⟩ : ByteArray) = ⟨#[60, 39]⟩ := rfl
                  have hw : IntKind.i64.wrap ((a6 : Int) + 1) = (a6 : Int) + 1 := Go.wrap_small _ (by omega) (by omega)
                  have hle1 : (a6 : Int) + 1 ≤ (S.size : Int) := by omega
                  have hle0 : (0 : Int) ≤ (a6 : Int) + 1 := by omega
                  have hle2 : a6 + 1 ≤ S.size := by omega
                  have HZ3 := Lib.hid hz3
                  have HH6 := Lib.hid hh6
                  have HL4 : Hid (r4.length = S.size - (a6 + 1)) := xt_len hz3
                  have HIA : Hid (∀ W, Calls Tryz.prog 74 #[.string ⟨r4.toArray⟩, .string ⟨#[60, 39]⟩] W fun e w' => e = .returned (.int .i64 (Lib.indexAny r4 [60, 39])) ∧ Below W.heap.size W w') := fun W => indexAny_two 39 (by decide) ⟨r4.toArray⟩ (by rw [sz_str, HL4.out]; omega) W
                  clear hd6 hh6 hz3
                  go_upto_region 10 with (fail)
                  go_quiet (fail)
                  go_upto_region 12 with (fail)
                  have h7 : ((W66.drewN nq).setCell ⟨b, 1, none⟩ (.int .i64 ((a6 : Int) + 1))).heap[b]? = some (.cells (rdC S (a6 + 1) (.pointer none) pv) 60 (0, 0)) := at_set (w := W66.drewN nq) HH6.out (a6 + 1)
                  have m7 : Mine b w ((W66.drewN nq).setCell ⟨b, 1, none⟩ (.int .i64 ((a6 : Int) + 1))) := (mine_drewN _ HM66.out).trans (mine_set _ _ _ _)
                  generalize (W66.drewN nq).setCell ⟨b, 1, none⟩ (.int .i64 ((a6 : Int) + 1)) = W7 at *
                  clear q0 q1 f1
                  have q0 : W7.cell? ⟨b, 0, none⟩ = some (.string S) := cell_at h7 rfl
                  have q1 : W7.cell? ⟨b, 1, none⟩ = some (.int .i64 ((a6 : Int) + 1)) := cell_at h7 rfl
                  have H7 := Lib.hid h7
                  have M7 := Lib.hid m7
                  clear h7 m7
                  go_still_tail 11, (by kernel_rfl)
                  change wpList _ _ _ _ _ W7.drew
                  obtain ⟨W8, hW8⟩ : ∃ wd, Hid (W7.drew = wd) := ⟨_, rfl⟩
                  rw [hW8.out]
                  have H8 : Hid (W8.heap[b]? = some (.cells (rdC S (a6 + 1) (.pointer none) pv) 60 (0, 0))) := by show _ = _; rw [← hW8.out]; exact H7.out
                  have M8 : Hid (Mine b w W8) := by show Chg _ _ _; rw [← hW8.out]; exact Chg.below_on M7.out (Below.drew (Below.refl _ _))
                  clear hW8 q0 q1
                  go_wp2_with fail
                  refine (HIA.out W8).mono ?_
                  rintro e W9 ⟨rfl, hb9⟩
                  have h9 := (hb9.block b (Array.getElem?_eq_some_iff.1 H8.out).1).trans H8.out
                  have q0 : W9.cell? ⟨b, 0, none⟩ = some (.string S) := cell_at h9 rfl
                  have q1 : W9.cell? ⟨b, 1, none⟩ = some (.int .i64 ((a6 : Int) + 1)) := cell_at h9 rfl
                  have f1 : W9.frozen? ⟨b, 1, none⟩ = false := free_of_heap h9
                  have H9 := Lib.hid h9
                  have M9 := Lib.hid (Chg.below_on M8.out hb9)
                  clear h9 hb9
                  have HG : ∀ st, attrL r1 = st → stGas st < gk := fun st hst => by
                    have hg' : r'.length + 1 ≤ gk := hg
                    cases st with
                    | error e => show 0 < gk; omega
                    | ok r2 => have h1 := attr_len hst; have h2 := HSL.out; show r2.length + 1 < gk; omega
                  have HGL : ∀ r2, attrL r1 = .ok r2 → r2.length < f := fun r2 hst => by
                    have h1 := attr_len hst; have h2 := HSL.out; omega
                  have HGH := Lib.hid HG
                  have HGLH := Lib.hid HGL
                  clear HG HGL
                  rcases idx_drop 39 r4 with ⟨i1, i2⟩ | ⟨n, i1, i2, i3⟩
                  · have HI2 := Lib.hid i2
                    rw [i1]
                    clear i1 i2
                    have HWT := Lib.hid (rwant_any (w := W9.setCell ⟨b, 1, none⟩ (.int .i64 (S.size : Int))) (b := b) (S := S) (r := []) (pv := pv) ⟨S.size, Nat.le_refl _, hs6, List.drop_of_length_le (by rw [Array.length_toList]; exact Nat.le_refl _), at_set H9.out S.size⟩ [39] (by simp))
                    go_wp2_with fail
                    refine (HWT.out).mono ?_
                    rintro e W10 ⟨rfl, h10, m10⟩
                    have HAF : Hid (attrL r1 = wantL [39] []) := by show _ = _; rw [HAQ.out, HI2.out]
                    have M10 := Lib.hid ((M9.out.trans (mine_set _ _ _ _)).trans m10)
                    have H10 := Lib.hid h10
                    clear h10 m10
                    go_wp2_with fail
                    go_roundg (stGas (wantL [39] []))
                    case measure => exact HGH.out _ HAF.out
                    case rel => exact ⟨wantL [39] [], f, H10, by show _ = _; rw [HU3.out, HAF.out], fun r2 e => HGLH.out r2 (HAF.out.trans e), Nat.le_refl _, M10⟩
                  · have HI3 := Lib.hid i3
                    rw [i1]
                    clear i1 i3
                    have hn0 : (0 : Int) ≤ (n : Int) := by omega
                    have hw2 : (a6 : Int) + 1 + (n : Int) ≤ 8000 := by have := HL4.out; omega
                    have HWT : Hid (Calls Tryz.prog 27 #[.pointer (some ⟨b, 0, none⟩), .string ⟨#[39]⟩] (W9.setCell ⟨b, 1, none⟩ (.int .i64 ((a6 : Int) + 1 + (n : Int)))) (RdOut b S pv (wantL [39] (r4.drop n)) (W9.setCell ⟨b, 1, none⟩ (.int .i64 ((a6 : Int) + 1 + (n : Int)))))) := rwant_any (w := W9.setCell ⟨b, 1, none⟩ (.int .i64 ((a6 : Int) + 1 + (n : Int)))) (b := b) (S := S) (r := r4.drop n) (pv := pv) ⟨a6 + 1 + n, by have := HL4.out; omega, hs6, by rw [← List.drop_drop, HZ3.out], at_set (w := W9) H9.out (a6 + 1 + n)⟩ [39] (by simp)
                    go_wp2_with fail
                    refine (HWT.out).mono ?_
                    rintro e W10 ⟨rfl, h10, m10⟩
                    have HAF : Hid (attrL r1 = wantL [39] (r4.drop n)) := by show _ = _; rw [HAQ.out, HI3.out]
                    have M10 := Lib.hid ((M9.out.trans (mine_set _ _ _ _)).trans m10)
                    have H10 := Lib.hid h10
                    clear h10 m10
                    go_wp2_with fail
                    go_roundg (stGas (wantL [39] (r4.drop n)))
                    case measure => exact HGH.out _ HAF.out
                    case rel => exact ⟨wantL [39] (r4.drop n), f, H10, by show _ = _; rw [HU3.out, HAF.out], fun r2 e => HGLH.out r2 (HAF.out.trans e), Nat.le_refl _, M10⟩
                | false =>
                  obtain ⟨a7, ha7, hs7, hd7, hh7⟩ := HR66.out
                  have q1 : W66.cell? ⟨b, 1, none⟩ = some (.int .i64 (a7 : Int)) := cell_at hh7 rfl
                  have HF := Lib.hid (rfail_at ha7 hs7 hd7 b pv 55 W66 hh7)
                  have HN : Hid (attrsL F r = .error (55, r3.length)) := by
                    show _ = _
                    rw [HU3.out, HAT.out]
                    cases r3 with
                    | nil => rfl
                    | cons c t =>
                      show Except.bind (if c = 34 ∨ c = 39 then _ else _) _ = _
                      rw [if_neg]
                      · rfl
                      · rintro (e | e)
                        · subst e; cases HY1.out
                        · subst e; cases HY2.out
                  clear hh7 hd7
                  go_wp2_with fail
                  refine (HF.out).mono ?_
                  rintro e W7 ⟨rfl, h7, m7⟩
                  go_wp2_with fail
                  go_end0
                  rw [HN.out]
                  exact ⟨rfl, h7, HM66.out.trans m7⟩
end Go.Proofs.YtgmgghbocidibaaGreatDoor
