/-
  xml.Parse. (Printed by wip/gen/xmparse.py.)
-/
import Derived.Test.YtgmgghbocidibaaGreatDoorXmElement
namespace Go.Proofs.YtgmgghbocidibaaGreatDoor
open Go.RowKit Go.Lib Go.PlainAid

/-- how Parse ends -/
def ParseOut (x : Except (Int × Int) Tree) (w : World) (e : Ending) (w' : World) : Prop :=
  Below w.heap.size w w' ∧ match x with
    | .ok t => ∃ z, e = .returned (.tuple #[.agg #[.string t.name, .string t.text, z], .nilIface]) ∧ OwnT w' w.heap.size t z
    | .error (c, p) => ∃ F, e = .returned (.tuple #[.agg elemZC, .iface 53 (.pointer (some ⟨F, 0, none⟩))]) ∧ w'.heap[F]? = some (.cells #[.int .i64 c, .int .i64 p, .nilIface] 55 (0, 0)) ∧ w.heap.size ≤ F
theorem idx1 (q : UInt8) : ∀ l : Bs, (Lib.indexByte l q = -1 ∧ l.dropWhile (fun b => decide (b ≠ q)) = []) ∨ ∃ n : Nat, Lib.indexByte l q = (n : Int) ∧ n ≤ l.length ∧ l.dropWhile (fun b => decide (b ≠ q)) = l.drop n
  | [] => .inl ⟨rfl, rfl⟩
  | b :: l => by
    unfold Lib.indexByte
    by_cases h : b = q
    · subst h
      right
      refine ⟨0, by simp, by simp, by simp⟩
    · have hb : (b == q) = false := beq_eq_false_iff_ne.2 h
      rcases idx1 q l with ⟨h1, h2⟩ | ⟨n, h1, h2, h3⟩
      · left
        refine ⟨?_, by rw [List.dropWhile_cons, if_pos (by simpa using h)]; exact h2⟩
        simp [h1, h]
      · right
        refine ⟨n + 1, ?_, by simp only [List.length_cons]; omega, ?_⟩
        · simp only [hb, h1]
          rw [if_neg (by simp)]
          first | omega | (simp; done) | (simp; omega)
        · rw [List.dropWhile_cons, if_pos (by simpa using h), h3, List.drop_succ_cons]
/-- how a reader stands, whatever went before -/
theorem RdSt.cells {w : World} {b : Nat} {S : ByteArray} {pv : Value} {st : R Bs} (h : RdSt w b S pv st) : ∃ (a : Nat) (bad : Option Addr), a ≤ S.size ∧ w.heap[b]? = some (.cells (rdC S a (.pointer bad) pv) 60 (0, 0)) ∧ (∀ r, st = .ok r → bad = none ∧ S.data.toList.drop a = r) ∧ (∀ e, st = .error e → ∃ g, bad = some ⟨g, 0, none⟩) := by
  cases st with
  | ok r =>
    obtain ⟨a, h1, h2, h3, h4⟩ := h
    exact ⟨a, none, h1, h4, fun r' e => by injection e with e; subst e; exact ⟨rfl, h3⟩, fun e he => by cases he⟩
  | error e =>
    obtain ⟨a, g, h1, h2, h3, h4, _⟩ := h
    exact ⟨a, some ⟨g, 0, none⟩, h1, h4, fun r' e => (by cases e), fun e he => ⟨g, rfl⟩⟩
theorem RdSt.later {w w' : World} {b : Nat} {S : ByteArray} {pv : Value} {st : R Bs} (h : RdSt w b S pv st) (hb : Below w.heap.size w w') : RdSt w' b S pv st := by
  cases st with
  | ok r => exact RdAt.later h hb
  | error e => exact RdBad.later h hb

theorem GlobX.later {w w' : World} (h : GlobX w) (hb : Below w.heap.size w w') : GlobX w' := ⟨h.g.later hb, h.c.later hb⟩
def isOk {α : Type} : R α → Bool
  | .ok _ => true
  | .error _ => false
theorem textL_err {s : Bs} {z : Int × Nat} (h : (headL s >>= elementL) = .error z) : textL s = .error z := by
  unfold textL
  cases hh : headL s with
  | error e =>
    rw [hh] at h
    have h' : (Except.error e : R (Tree × Bs)) = .error z := h
    injection h' with h'
    subst h'
    rfl
  | ok r =>
    rw [ok_bind hh] at h
    rw [ok_bind rfl, h]
    rfl
theorem textL_ok {s : Bs} {t : Tree} {r : Bs} (h : (headL s >>= elementL) = .ok (t, r)) : textL s = if skipL r = [] then .ok t else .error (55, (skipL r).length) := by
  obtain ⟨r1, h1, h2⟩ := bind_ok h
  unfold textL
  rw [ok_bind h1, ok_bind h2]
  rfl
/-- how it stands behind the element -/
def ElSt (W : World) (b be lo : Nat) (S : ByteArray) (x : R (Tree × Bs)) : Prop := match x with
  | .ok (t, r) => ∃ z pv, (∃ a c, z = .slice a t.kids.length c) ∧ RdAt W b S r pv ∧ W.heap[be]? = some (.cells #[.string t.name, .string t.text, z] 24 (0, 0)) ∧ ElE W lo W.heap.size t z
  | .error (c, k) => MachBad W b S c k
/-- how it stands at the end -/
def TxSt (W : World) (b be lo : Nat) (S : ByteArray) (x : R Tree) : Prop := match x with
  | .ok t => ∃ z, (∃ a c, z = .slice a t.kids.length c) ∧ W.cell? ⟨b, 2, none⟩ = some (.pointer none) ∧ W.heap[be]? = some (.cells #[.string t.name, .string t.text, z] 24 (0, 0)) ∧ ElE W lo W.heap.size t z
  | .error (c, k) => MachBad W b S c k
theorem ElE.form {w : World} {lo hi : Nat} {t : Tree} {z : Value} (h : ElE w lo hi t z) : ∃ a c, z = .slice a t.kids.length c := by
  obtain ⟨a, c, h1, _⟩ := h.own.form
  exact ⟨a, c, h1⟩
theorem ElE.mine {w w' : World} {b lo : Nat} {S : ByteArray} {r : Bs} {pv : Value} {t : Tree} {z : Value} (h : ElE w lo w.heap.size t z) (hr : RdAt w b S r pv) (hc : Mine b w w') : ElE w' lo w'.heap.size t z :=
  h.kept hc.size fun k _ hk hE => hc.block k hk (fun e => by subst e; exact hr.not_isP hE.isP)

set_option maxHeartbeats 8000000 in
set_option maxRecDepth 100000 in
theorem Parse_any (S : ByteArray) (w : World) (hG : GlobX w) (hS : S.size ≤ 140737488355328) :
    Calls Tryz.prog 9 #[.string S] w (ParseOut (parseL S.data.toList) w) := by
  have HG := Lib.hid hG
  have h8 : 8 ≤ w.heap.size := hG.c.size
  have hlS : S.data.toList.length = S.size := by rw [Array.length_toList]; rfl
  clear hG
  go_enter Tryz.func9, Tryz.ntmps9
  by_cases hbig : 8000 < S.size
  · have hbz : (8000 : Int) < (S.size : Int) := by omega
    have HE : Hid (parseL S.data.toList = .error (56, 0)) := by show _ = _; unfold parseL; rw [if_pos (by omega)]
    clear hlS hbig
    obtain ⟨W1, hW1⟩ : ∃ W1, w.alloc (.cells elemZC 24) = W1 := ⟨_, rfl⟩
    have B1 : Hid (Below w.heap.size w W1) := by show Below _ _ _; rw [← hW1]; exact below_alloc (Below.refl _ _) (Nat.le_refl _) _
    have X1 : Hid (W1.heap[w.heap.size]? = some (.cells elemZC 24 (0, 0))) := by show _ = _; rw [← hW1]; exact heap_alloc_new _ _
    unfold elemZC at hW1
    go_upto_region 1 with (fail)
    (try rw [hW1])
    clear hW1
    obtain ⟨W2, hW2⟩ : ∃ W2, W1.alloc (.cells #[.int .i64 56, .int .i64 0, .nilIface] 55) = W2 := ⟨_, rfl⟩
    have B2 : Hid (Below W1.heap.size W1 W2) := by show Below _ _ _; rw [← hW2]; exact below_alloc (Below.refl _ _) (Nat.le_refl _) _
    have F2 : Hid (W2.heap[W1.heap.size]? = some (.cells #[.int .i64 56, .int .i64 0, .nilIface] 55 (0, 0))) := by show _ = _; rw [← hW2]; exact heap_alloc_new _ _
    have X2 : Hid (W2.heap[w.heap.size]? = some (.cells elemZC 24 (0, 0))) := (B2.out.block _ (Array.getElem?_eq_some_iff.1 X1.out).1).trans X1.out
    have hlt : w.heap.size < W1.heap.size := (Array.getElem?_eq_some_iff.1 X1.out).1
    go_wp2_with (refine wpList_store_rowN (by rfl) 24 _ _ (by rfl) w.heap.size elemZC (by rfl) (by rfl) 24 elemZC (by first | exact X2.out | (rw [hW2]; exact X2.out)) (by kernel_rfl) (by rfl) (by kernel_rfl) (fun W => W.heap[w.heap.size]? = some (.cells elemZC 24 (0, 0)) ∧ Chg W2 W (fun k => k = w.heap.size)) (by (try rw [hW2]); exact ⟨setRow_heap _ _ _ _ _ _ X2.out, Chg.setRow_on (Chg.refl _ _) _ rfl⟩) ?_; rintro W3 h3)
    refine bodyPost_ret (results_cell_tmp rfl _ _ w.heap.size 24 _ _ rfl h3.1 Tryz.underlying24 rfl (by kernel_rfl)) rfl ?_
    rw [HE.out]
    have h3b := h3.2
    refine ⟨⟨h3b.os.trans (B2.out.os.trans B1.out.os), h3b.tape.trans (B2.out.tape.trans B1.out.tape), h3b.output.trans (B2.out.output.trans B1.out.output), by have := B1.out.size; have := B2.out.size; have := h3b.size; omega, fun k hk => ?_⟩, W1.heap.size, rfl, ?_, by omega⟩
    · rw [h3b.block k (by have := B1.out.size; have := B2.out.size; omega) (by show k ≠ w.heap.size; omega), B2.out.block k (by have := B1.out.size; omega), B1.out.block k hk]
    · rw [h3b.block W1.heap.size (Array.getElem?_eq_some_iff.1 F2.out).1 (by show W1.heap.size ≠ w.heap.size; omega)]
      exact F2.out
  · have hbz : ¬ (8000 : Int) < (S.size : Int) := by omega
    have HP : Hid (parseL S.data.toList = match textL S.data.toList with | .ok e => .ok e | .error (c, k) => .error (c, (S.data.toList.length : Int) - k)) := by show _ = _; unfold parseL; rw [if_neg (by omega)]; cases textL S.data.toList <;> rfl
    obtain ⟨W1, hW1⟩ : ∃ W1, w.alloc (.cells elemZC 24) = W1 := ⟨_, rfl⟩
    have B1 : Hid (Below w.heap.size w W1) := by show Below _ _ _; rw [← hW1]; exact below_alloc (Below.refl _ _) (Nat.le_refl _) _
    have X1 : Hid (W1.heap[w.heap.size]? = some (.cells elemZC 24 (0, 0))) := by show _ = _; rw [← hW1]; exact heap_alloc_new _ _
    unfold elemZC at hW1
    go_upto_region 1 with (fail)
    (try rw [hW1])
    clear hW1
    obtain ⟨b, hb⟩ : ∃ b, W1.heap.size = b := ⟨_, rfl⟩
    obtain ⟨W2, hW2⟩ : ∃ W2, W1.alloc (.cells #[.string S, .int .i64 0, .pointer none, .slice none 0 0] 60) = W2 := ⟨_, rfl⟩
    have B2 : Hid (Below w.heap.size w W2) := by show Below _ _ _; rw [← hW2]; exact below_alloc B1.out (Nat.le_refl _) _
    have R2 : Hid (RdAt W2 b S S.data.toList (.slice none 0 0)) := ⟨0, Nat.zero_le _, by omega, rfl, by rw [← hW2, ← hb]; exact heap_alloc_new _ _⟩
    have X2 : Hid (W2.heap[w.heap.size]? = some (.cells elemZC 24 (0, 0))) := by show _ = _; rw [← hW2]; exact heap_old _ X1.out
    have hbx : w.heap.size < b := by rw [← hb]; exact (Array.getElem?_eq_some_iff.1 X1.out).1
    have B2R : Hid (b < W2.heap.size) := R2.out.lt
    go_upto_region 4 with (fail)
    (try rw [hW2])
    (try rw [hb])
    clear hW2 hb B1 X1 hbig
    have HBL := Lib.hid (rblanks_any R2.out)
    go_wp2_with fail
    refine (HBL.out).mono ?_
    rintro e W3 ⟨rfl, h3, m3⟩
    have R3 := Lib.hid h3
    have M3 := Lib.hid m3
    clear h3 m3 HBL R2
    obtain ⟨s0, hs0⟩ : ∃ s0, skipL S.data.toList = s0 := ⟨_, rfl⟩
    rw [hs0] at R3
    have HS0 := Lib.hid hs0
    have HA := Lib.hid (rahead_any R3.out [60, 63])
    obtain ⟨y, hy⟩ : ∃ y, ([60, 63] : Bs).isPrefixOf s0 = y := ⟨_, rfl⟩
    rw [hy] at HA
    have HY := Lib.hid hy
    clear hs0 hy
    go_wp2_with fail
    refine (HA.out).mono ?_
    rintro e W4 ⟨rfl, hb4⟩
    have R4 := Lib.hid (R3.out.later hb4)
    have M4 : Hid (Mine b W2 W4) := M3.out.below_on hb4
    clear hb4 HA R3 M3
    go_upto_if 20 with (fail)
    go_cut [] (fun wx => Hid (RdSt wx b S (.slice none 0 0) (headL S.data.toList)) ∧ Hid (Mine b W2 wx))
    case first =>
      cases y with
      | false =>
        have HH : Hid (headL S.data.toList = .ok s0) := by show _ = _; unfold headL; simp only [HS0.out]; rw [if_neg (by rw [HY.out]; decide)]
        go_wp2_with fail
        go_meet
        case rel => exact ⟨by rw [HH.out]; exact R4.out, M4.out⟩
      | true =>
        have HH : Hid (headL S.data.toList = (wantL [60, 63, 120, 109, 108] s0 >>= fun r1 => wantL [63, 62] (r1.dropWhile (fun b => decide (b ≠ 63))) >>= fun r2 => (.ok (skipL r2) : R Bs))) := by show _ = _; unfold headL; simp only [HS0.out]; rw [if_pos HY.out]; rfl
        have HW := Lib.hid (rwant_any R4.out [60, 63, 120, 109, 108] (by decide))
        go_wp2_with fail
        refine (HW.out).mono ?_
        rintro e W5 ⟨rfl, h5, m5⟩
        obtain ⟨a5, bad5, ha5, hx5, ok5, er5⟩ := h5.cells
        have M5 := Lib.hid (M4.out.trans m5)
        have X5 := Lib.hid hx5
        have ST5 := Lib.hid h5
        have q0 : W5.cell? ⟨b, 0, none⟩ = some (.string S) := cell_at hx5 rfl
        have q1 : W5.cell? ⟨b, 1, none⟩ = some (.int .i64 (a5 : Int)) := cell_at hx5 rfl
        have q2 : W5.cell? ⟨b, 2, none⟩ = some (.pointer bad5) := cell_at hx5 rfl
        have hxe := xt_ext (s := S) (i := a5) rfl
        have ha5z : (a5 : Int) ≤ (S.size : Int) := by omega
        obtain ⟨d5, hd5⟩ : ∃ d5, S.data.toList.drop a5 = d5 := ⟨_, rfl⟩
        rw [hd5] at hxe ok5
        have HIB : Hid (∀ W, Calls Tryz.prog 28 #[.string ⟨d5.toArray⟩, .int .u8 63] W fun e w' => e = .returned (.int .i64 (Lib.indexByte d5 63)) ∧ w' = W) := fun W => Tryz.strings_IndexByte ⟨d5.toArray⟩ 63 W
        have HIX := Lib.hid (idx1 63 d5)
        obtain ⟨ix, hix⟩ : ∃ ix, Lib.indexByte d5 63 = ix := ⟨_, rfl⟩
        rw [hix] at HIB HIX
        have HOK := Lib.hid ok5
        have HER := Lib.hid er5
        have HD5 := Lib.hid hd5
        clear h5 m5 hx5 ok5 er5 hd5 hix HW
        go_upto_region 7 with (fail)
        go_quiet ((go_at_call 28; exact Calls.quiet_of_same (HIB.out _)))
        obtain ⟨W6, hW6⟩ : ∃ W6, W5.drewN nq = W6 := ⟨_, rfl⟩
        have hb6 : Below W5.heap.size W5 W6 := by rw [← hW6]; exact bel_drewN (Below.refl _ _) _
        rw [hW6]
        have M6 := Lib.hid (M5.out.below_on hb6)
        have ST6 := Lib.hid (ST5.out.later hb6)
        have hx6 := (hb6.block b (Array.getElem?_eq_some_iff.1 X5.out).1).trans X5.out
        have X6 := Lib.hid hx6
        have f1 : W6.frozen? ⟨b, 1, none⟩ = false := free_of_heap hx6
        clear q0 q1 q2 hW6 hb6 M5 ST5 X5 hxe
        have q1 : W6.cell? ⟨b, 1, none⟩ = some (.int .i64 (a5 : Int)) := cell_at hx6 rfl
        have q2 : W6.cell? ⟨b, 2, none⟩ = some (.pointer bad5) := cell_at hx6 rfl
        clear hx6
        cases hw5 : wantL [60, 63, 120, 109, 108] s0 with
        | error z =>
          have HHE : Hid (headL S.data.toList = .error z) := by show _ = _; rw [HH.out, hw5]; rfl
          obtain ⟨g5, rfl⟩ := HER.out z hw5
          rw [hw5] at ST6
          have HWB := Lib.hid (rwant_bad (show RdBad W6 b S z.1 z.2 (.slice none 0 0) from ST6.out) [63, 62] (by decide))
          clear hw5
          by_cases hi0 : 0 ≤ ix
          · go_wp2_with fail
            refine (HWB.out).mono ?_
            rintro e W7 ⟨rfl, rfl⟩
            go_wp2_with fail
            go_meet
            case rel => exact ⟨by rw [HHE.out]; exact ST6.out, M6.out⟩
          · go_wp2_with fail
            refine (HWB.out).mono ?_
            rintro e W7 ⟨rfl, rfl⟩
            go_wp2_with fail
            go_meet
            case rel => exact ⟨by rw [HHE.out]; exact ST6.out, M6.out⟩
        | ok r1 =>
          obtain ⟨rfl, hd1⟩ := HOK.out r1 hw5
          obtain ⟨nx, hnx1, hnx2, hnx3⟩ : ∃ nx : Nat, nx ≤ d5.length ∧ d5.dropWhile (fun b => decide (b ≠ 63)) = d5.drop nx ∧ ((ix = (nx : Int) ∧ 0 ≤ ix) ∨ (ix = -1 ∧ nx = d5.length)) := by
            rcases HIX.out with ⟨h1, h2⟩ | ⟨n, h1, h2, h3⟩
            · exact ⟨d5.length, Nat.le_refl _, by rw [h2, List.drop_length], .inr ⟨h1, rfl⟩⟩
            · exact ⟨n, h2, h3, .inl ⟨h1, by omega⟩⟩
          subst hd1
          have hdl : d5.length = S.size - a5 := xt_len HD5.out
          rcases hnx3 with ⟨rfl, hi0⟩ | ⟨rfl, rfl⟩
          · have hnx0 : (nx : Int) ≤ (d5.length : Int) := by omega
            have h7 : RdAt (W6.setCell ⟨b, 1, none⟩ (.int .i64 ((a5 : Int) + (nx : Int)))) b S (d5.drop nx) (.slice none 0 0) :=
              ⟨a5 + nx, by omega, by have := hbz; omega, by rw [← List.drop_drop, HD5.out], by
                have h := at_set X6.out (a5 + nx)
                rwa [show ((a5 + nx : Nat) : Int) = (a5 : Int) + (nx : Int) from by omega] at h⟩
            obtain ⟨W7, hW7⟩ : ∃ W7, W6.setCell ⟨b, 1, none⟩ (.int .i64 ((a5 : Int) + (nx : Int))) = W7 := ⟨_, rfl⟩
            have m7 : Mine b W6 W7 := by rw [← hW7]; exact mine_set _ _ _ _
            rw [hW7] at h7
            have R7 := Lib.hid h7
            have M7 := Lib.hid (M6.out.trans m7)
            have HW7 := Lib.hid (rwant_any h7 [63, 62] (by decide))
            have HH2 : Hid (headL S.data.toList = (wantL [63, 62] (d5.drop nx) >>= fun r2 => (.ok (skipL r2) : R Bs))) := by show _ = _; rw [HH.out, ok_bind hw5, hnx2]
            have han : (a5 : Int) + (nx : Int) ≤ 8000 := by omega
            clear hw5 h7 m7 HIX HOK HER HIB ST6
            go_upto_region 12 with (fail)
            (try rw [hW7])
            clear hW7 q1 q2 f1 X6 M6 han
            cases hw7 : wantL [63, 62] (d5.drop nx) with
            | error z =>
              rw [hw7] at HW7
              have HHE : Hid (headL S.data.toList = .error z) := by show _ = _; rw [HH2.out, hw7]; rfl
              clear hw7
              go_wp2_with fail
              refine (HW7.out).mono ?_
              rintro e W8 ⟨rfl, h8', m8⟩
              have h8b : RdBad W8 b S z.1 z.2 (.slice none 0 0) := h8'
              obtain ⟨q, q2⟩ := RdBad.bad h8b
              have R8 := Lib.hid h8b
              have M8 := Lib.hid (M7.out.trans m8)
              clear h8' h8b m8
              go_wp2_with fail
              go_meet
              case rel => exact ⟨by rw [HHE.out]; exact R8.out, M8.out⟩
            | ok r2 =>
              rw [hw7] at HW7
              have HHE : Hid (headL S.data.toList = .ok (skipL r2)) := by show _ = _; rw [HH2.out, ok_bind hw7]
              clear hw7
              go_wp2_with fail
              refine (HW7.out).mono ?_
              rintro e W8 ⟨rfl, h8', m8⟩
              have h8b : RdAt W8 b S r2 (.slice none 0 0) := h8'
              have q2 := RdAt.bad h8b
              have HB8 := Lib.hid (rblanks_any h8b)
              have M8 := Lib.hid (M7.out.trans m8)
              clear h8' h8b m8
              go_wp2_with fail
              refine (HB8.out).mono ?_
              rintro e W9 ⟨rfl, h9, m9⟩
              have R9 := Lib.hid h9
              have M9 := Lib.hid (M8.out.trans m9)
              clear h9 m9
              go_wp2_with fail
              go_meet
              case rel => exact ⟨by rw [HHE.out]; exact R9.out, M9.out⟩
          · generalize hnx' : d5.length = nx at *
            have h7 : RdAt (W6.setCell ⟨b, 1, none⟩ (.int .i64 ((S.size : Int)))) b S (d5.drop nx) (.slice none 0 0) :=
              ⟨a5 + nx, by omega, by have := hbz; omega, by rw [← List.drop_drop, HD5.out], by
                have h := at_set X6.out (a5 + nx)
                rwa [show ((a5 + nx : Nat) : Int) = (S.size : Int) from by omega] at h⟩
            obtain ⟨W7, hW7⟩ : ∃ W7, W6.setCell ⟨b, 1, none⟩ (.int .i64 ((S.size : Int))) = W7 := ⟨_, rfl⟩
            have m7 : Mine b W6 W7 := by rw [← hW7]; exact mine_set _ _ _ _
            rw [hW7] at h7
            have R7 := Lib.hid h7
            have M7 := Lib.hid (M6.out.trans m7)
            have HW7 := Lib.hid (rwant_any h7 [63, 62] (by decide))
            have HH2 : Hid (headL S.data.toList = (wantL [63, 62] (d5.drop nx) >>= fun r2 => (.ok (skipL r2) : R Bs))) := by show _ = _; rw [HH.out, ok_bind hw5, hnx2]
            have han : (a5 : Int) + (nx : Int) ≤ 8000 := by omega
            clear hw5 h7 m7 HIX HOK HER HIB ST6
            go_upto_region 12 with (fail)
            (try rw [hW7])
            clear hW7 q1 q2 f1 X6 M6 han
            cases hw7 : wantL [63, 62] (d5.drop nx) with
            | error z =>
              rw [hw7] at HW7
              have HHE : Hid (headL S.data.toList = .error z) := by show _ = _; rw [HH2.out, hw7]; rfl
              clear hw7
              go_wp2_with fail
              refine (HW7.out).mono ?_
              rintro e W8 ⟨rfl, h8', m8⟩
              have h8b : RdBad W8 b S z.1 z.2 (.slice none 0 0) := h8'
              obtain ⟨q, q2⟩ := RdBad.bad h8b
              have R8 := Lib.hid h8b
              have M8 := Lib.hid (M7.out.trans m8)
              clear h8' h8b m8
              go_wp2_with fail
              go_meet
              case rel => exact ⟨by rw [HHE.out]; exact R8.out, M8.out⟩
            | ok r2 =>
              rw [hw7] at HW7
              have HHE : Hid (headL S.data.toList = .ok (skipL r2)) := by show _ = _; rw [HH2.out, ok_bind hw7]
              clear hw7
              go_wp2_with fail
              refine (HW7.out).mono ?_
              rintro e W8 ⟨rfl, h8', m8⟩
              have h8b : RdAt W8 b S r2 (.slice none 0 0) := h8'
              have q2 := RdAt.bad h8b
              have HB8 := Lib.hid (rblanks_any h8b)
              have M8 := Lib.hid (M7.out.trans m8)
              clear h8' h8b m8
              go_wp2_with fail
              refine (HB8.out).mono ?_
              rintro e W9 ⟨rfl, h9, m9⟩
              have R9 := Lib.hid h9
              have M9 := Lib.hid (M8.out.trans m9)
              clear h9 m9
              go_wp2_with fail
              go_meet
              case rel => exact ⟨by rw [HHE.out]; exact R9.out, M9.out⟩
    case rest =>
      obtain ⟨HS5, HM5⟩ := hcut
      generalize wc = W5 at *
      have hw2 := B2.out.size
      have hb2 : b < W2.heap.size := B2R.out
      have X5 : Hid (W5.heap[w.heap.size]? = some (.cells elemZC 24 (0, 0))) := heap_mine X2.out HM5.out (by omega)
      obtain ⟨be, hbe⟩ : ∃ be, W5.heap.size = be := ⟨_, rfl⟩
      obtain ⟨W6, hW6⟩ : ∃ W6, W5.alloc (.cells elemZC 24) = W6 := ⟨_, rfl⟩
      have hb6 : Below W5.heap.size W5 W6 := by rw [← hW6]; exact below_alloc (Below.refl _ _) (Nat.le_refl _) _
      have E6 : Hid (W6.heap[be]? = some (.cells elemZC 24 (0, 0))) := by show _ = _; rw [← hW6, ← hbe]; exact heap_alloc_new _ _
      have S6 := Lib.hid (HS5.out.later hb6)
      have M6 := Lib.hid (HM5.out.below_on hb6)
      have X6 := Lib.hid ((hb6.block _ (Array.getElem?_eq_some_iff.1 X5.out).1).trans X5.out)
      have hbb : b < be := by have := HM5.out.size; omega
      have BE : Hid (W2.heap.size ≤ be) := by show _ ≤ _; have := HM5.out.size; omega
      have hbl6 : be < W6.heap.size := (Array.getElem?_eq_some_iff.1 E6.out).1
      unfold elemZC at hW6
      have hwb : w.heap.size < be := by omega
      go_upto_region 16 with (fail)
      (try rw [hW6])
      (try rw [hbe])
      clear hW6 hb6 hbe HS5 HM5 X5 R4 M4 HY
      go_cut [73] (fun s73 wx => s73 = .bool (isOk (headL S.data.toList)) ∧ wx = W6)
      case first =>
        cases hh : headL S.data.toList with
        | error z =>
          rw [hh] at S6
          obtain ⟨q, q2⟩ := RdBad.bad (show RdBad W6 b S z.1 z.2 (.slice none 0 0) from S6.out)
          have HHK := Lib.hid hh
          clear hh
          go_wp2_with fail
          go_meet
          case rel => exact ⟨by rw [HHK.out]; rfl, rfl⟩
        | ok r1 =>
          rw [hh] at S6
          have q2 := RdAt.bad (show RdAt W6 b S r1 (.slice none 0 0) from S6.out)
          have HHK := Lib.hid hh
          clear hh
          go_wp2_with fail
          go_meet
          case rel => exact ⟨by rw [HHK.out]; rfl, rfl⟩
      case rest =>
      obtain ⟨rfl, rfl⟩ := hcut
      generalize wc = W6 at *
      go_upto_if 73 with (fail)
      go_cut [] (fun wx => Hid (ElSt wx b be W6.heap.size S (headL S.data.toList >>= elementL)) ∧ Hid (Mine b W2 wx) ∧ Hid (W6.heap.size ≤ wx.heap.size))
      case first =>
        cases hh : headL S.data.toList with
        | error z =>
          rw [hh] at S6
          have h6 : RdBad W6 b S z.1 z.2 (.slice none 0 0) := S6.out
          obtain ⟨q, q2⟩ := RdBad.bad h6
          have HHK := Lib.hid hh
          clear h6 hh
          simp only [isOk]
          go_wp2_with fail
          go_meet
          case rel => exact ⟨by show ElSt _ _ _ _ _ _; rw [HHK.out]; exact ⟨_, S6.out⟩, M6.out, Nat.le_refl _⟩
        | ok r1 =>
          rw [hh] at S6
          have h6 : RdAt W6 b S r1 (.slice none 0 0) := S6.out
          have q2 := RdAt.bad h6
          have HEL := Lib.hid (element_any h6 ((HG.out.later B2.out).from (b := b) (B := b + 1) (From.mine M6.out) (by omega) (by omega) (by omega)) (by omega))
          have HHK := Lib.hid hh
          clear h6 hh
          simp only [isOk]
          cases hel : elementL r1 with
          | error z =>
            rw [hel] at HEL
            go_wp2_with fail
            refine (HEL.out).mono ?_
            rintro e W7 ⟨m7, rfl, pv7, h7⟩
            have E7 := Lib.hid (heap_mine E6.out m7 (by omega))
            have M7 := Lib.hid m7
            have H7 := Lib.hid h7
            clear m7 h7 q2
            go_wp2_with (refine wpList_store_rowN (by rfl) 24 _ _ (by rfl) be elemZC (by rfl) (by rfl) 24 elemZC (by exact E7.out) (by kernel_rfl) (by rfl) (by kernel_rfl) (fun W => W.heap[be]? = some (.cells elemZC 24 (0, 0)) ∧ Chg W7 W (fun k => k = be)) (by exact ⟨setRow_heap _ _ _ _ _ _ E7.out, Chg.setRow_on (Chg.refl _ _) _ rfl⟩) ?_; rintro W8 h8)
            go_meet
            case rel =>
              refine ⟨?_, ?_, ?_⟩
              · show ElSt _ _ _ _ _ _
                rw [ok_bind HHK.out, hel]
                exact ⟨pv7, H7.out.farE h8.2 E7.out (by omega)⟩
              · have h9 := M6.out.trans M7.out
                exact ⟨h8.2.os.trans h9.os, h8.2.tape.trans h9.tape, h8.2.output.trans h9.output, Nat.le_trans h9.size h8.2.size, fun k hk hn => (h8.2.block k (Nat.lt_of_lt_of_le hk h9.size) (by show k ≠ be; have := BE.out; omega)).trans (h9.block k hk hn)⟩
              · exact Nat.le_trans M7.out.size h8.2.size
          | ok y2 =>
            obtain ⟨t, r2⟩ := y2
            rw [hel] at HEL
            go_wp2_with fail
            refine (HEL.out).mono ?_
            rintro e W7 ⟨m7, ⟨z, rfl, el7⟩, pv7, h7⟩
            obtain ⟨az, cz, rfl⟩ := el7.form
            have E7 := Lib.hid (heap_mine E6.out m7 (by omega))
            have M7 := Lib.hid m7
            have H7 := Lib.hid h7
            have EL7 := Lib.hid el7
            clear m7 h7 q2 el7
            go_wp2_with (refine wpList_store_rowN (by rfl) 24 _ _ (by rfl) be #[.string t.name, .string t.text, .slice az t.kids.length cz] (by rfl) (by rfl) 24 elemZC (by exact E7.out) (by kernel_rfl) (by rfl) (by kernel_rfl) (fun W => W.heap[be]? = some (.cells #[.string t.name, .string t.text, .slice az t.kids.length cz] 24 (0, 0)) ∧ Chg W7 W (fun k => k = be)) (by exact ⟨setRow_heap _ _ _ _ _ _ E7.out, Chg.setRow_on (Chg.refl _ _) _ rfl⟩) ?_; rintro W8 h8)
            go_meet
            case rel =>
              refine ⟨?_, ?_, ?_⟩
              · show ElSt _ _ _ _ _ _
                rw [ok_bind HHK.out, hel]
                exact ⟨_, pv7, ⟨az, cz, rfl⟩, H7.out.chg h8.2 (by show b ≠ be; omega), h8.1, EL7.out.kept h8.2.size fun k h1 h2 _ => h8.2.block k h2 (by show k ≠ be; omega)⟩
              · have h9 := M6.out.trans M7.out
                exact ⟨h8.2.os.trans h9.os, h8.2.tape.trans h9.tape, h8.2.output.trans h9.output, Nat.le_trans h9.size h8.2.size, fun k hk hn => (h8.2.block k (Nat.lt_of_lt_of_le hk h9.size) (by show k ≠ be; have := BE.out; omega)).trans (h9.block k hk hn)⟩
              · exact Nat.le_trans M7.out.size h8.2.size
      case rest =>
        obtain ⟨HS7, HM7, HZ7⟩ := hcut
        generalize wc = W7 at *
        clear S6 M6 X6 E6
        go_upto_region 18 with (fail)
        go_cut [80] (fun s80 wx => s80 = .bool (isOk (headL S.data.toList >>= elementL)) ∧ wx = W7)
        case first =>
          cases hel : headL S.data.toList >>= elementL with
          | error z =>
            rw [hel] at HS7
            obtain ⟨pv7, h7⟩ := HS7.out
            obtain ⟨q, q2⟩ := RdBad.bad h7
            have HEK := Lib.hid hel
            clear h7 hel
            go_wp2_with fail
            go_meet
            case rel => exact ⟨by rw [HEK.out]; rfl, rfl⟩
          | ok y2 =>
            obtain ⟨t, r2⟩ := y2
            rw [hel] at HS7
            obtain ⟨z, pv7, hz, h7, e7, el7⟩ := HS7.out
            have q2 := RdAt.bad h7
            have HEK := Lib.hid hel
            clear h7 e7 el7 hel
            go_wp2_with fail
            go_meet
            case rel => exact ⟨by rw [HEK.out]; rfl, rfl⟩
        case rest =>
        obtain ⟨rfl, rfl⟩ := hcut
        generalize wc = W7 at *
        go_upto_if 80 with (fail)
        go_cut [] (fun wx => Hid (TxSt wx b be W6.heap.size S (textL S.data.toList)) ∧ Hid (Mine b W2 wx))
        case first =>
          cases hel : headL S.data.toList >>= elementL with
          | error z =>
            rw [hel] at HS7
            have HT : Hid (textL S.data.toList = .error z) := textL_err hel
            obtain ⟨pv7, h7⟩ := HS7.out
            obtain ⟨q, q2⟩ := RdBad.bad h7
            have H7 := Lib.hid h7
            clear h7 hel
            simp only [isOk]
            go_wp2_with fail
            go_meet
            case rel => exact ⟨by rw [HT.out]; exact ⟨pv7, H7.out⟩, HM7.out⟩
          | ok y2 =>
            obtain ⟨t, r2⟩ := y2
            rw [hel] at HS7
            have HT : Hid (textL S.data.toList = if skipL r2 = [] then .ok t else .error (55, (skipL r2).length)) := textL_ok hel
            obtain ⟨z, pv7, hz, h7, e7, el7⟩ := HS7.out
            have q2 := RdAt.bad h7
            have HBL := Lib.hid (rblanks_any h7)
            have H7 := Lib.hid h7
            have E7 := Lib.hid e7
            have EL7 := Lib.hid el7
            clear h7 e7 el7 hel
            simp only [isOk]
            go_wp2_with fail
            refine (HBL.out).mono ?_
            rintro e W8 ⟨rfl, h8', m8⟩
            obtain ⟨a8, ha8, -, hd8, k0, k1, k2, k3, hh8⟩ := h8'.cells
            have E8 := Lib.hid (heap_mine E7.out m8 (by omega))
            have EL8 := Lib.hid (EL7.out.mine H7.out m8)
            have M8 := Lib.hid (HM7.out.trans m8)
            have HX8 := Lib.hid hh8
            have hl8 := xt_len hd8
            have HD8 := Lib.hid hd8
            clear h8' m8 hh8 hd8 q2 k0 k3
            by_cases hsk : skipL r2 = []
            · have hge : ¬ (a8 : Int) < (S.size : Int) := by rw [hsk] at hl8; simp only [List.length_nil] at hl8; omega
              have HT2 : Hid (textL S.data.toList = .ok t) := by show _ = _; rw [HT.out, if_pos hsk]
              clear hsk hl8 ha8 k2
              go_wp2_with fail
              go_meet
              case rel => exact ⟨by rw [HT2.out]; exact ⟨z, hz, cell_at HX8.out rfl, E8.out, EL8.out⟩, M8.out⟩
            · have hlt8 : (a8 : Int) < (S.size : Int) := by have := List.length_pos_iff.2 hsk; omega
              have HT2 : Hid (textL S.data.toList = .error (55, (skipL r2).length)) := by show _ = _; rw [HT.out, if_neg hsk]
              have HF := Lib.hid (rfail_at ha8 (by omega) HD8.out b pv7 55 W8 HX8.out)
              clear hsk hl8 ha8 k2
              go_wp2_with fail
              refine (HF.out).mono ?_
              rintro e W9 ⟨rfl, h9, m9⟩
              have H9 : Hid (RdBad W9 b S 55 (skipL r2).length pv7) := h9
              have M9 := Lib.hid (M8.out.trans m9)
              clear h9 m9
              go_wp2_with fail
              go_meet
              case rel => exact ⟨by rw [HT2.out]; exact ⟨pv7, H9.out⟩, M9.out⟩
        case rest =>
          obtain ⟨HS8, HM8⟩ := hcut
          generalize wc = W8 at *
          have X8 : Hid (W8.heap[w.heap.size]? = some (.cells elemZC 24 (0, 0))) := heap_mine X2.out HM8.out (by omega)
          have B8 : Hid (∀ k, k < w.heap.size → W8.heap[k]? = w.heap[k]?) := fun k hk => (HM8.out.block k (by omega) (by show k ≠ b; omega)).trans (B2.out.block k hk)
          cases htx : textL S.data.toList with
          | error z =>
            obtain ⟨zc, zk⟩ := z
            rw [htx] at HS8
            have HE : Hid (parseL S.data.toList = .error (zc, (S.size : Int) - zk)) := by show _ = _; rw [HP.out, htx, hlS]
            obtain ⟨pv8, a8, q, -, -, -, hh8, hq8, hqb⟩ := HS8.out
            have q2 : W8.cell? ⟨b, 2, none⟩ = some (.pointer (some ⟨q, 0, none⟩)) := cell_at hh8 rfl
            have qa : W8.cell? ⟨q, 0, none⟩ = some (.int .i64 zc) := cell_at hq8 rfl
            have qb : W8.cell? ⟨q, 1, none⟩ = some (.int .i64 ((S.size : Int) - zk)) := cell_at hq8 rfl
            have hn1 : ¬ (b = w.heap.size) := by omega
            have hn2 : ¬ (q = w.heap.size) := fun e => by
              have h1 := X8.out
              rw [← e] at h1
              exact absurd (type_eq h1 hq8) (by decide)
            obtain ⟨zp, hzp⟩ : ∃ zp, (S.size : Int) - zk = zp := ⟨_, rfl⟩
            rw [hzp] at qb HE
            clear htx hh8 hq8 hqb hzp
            go_upto_region 23 with (fail)
            refine wp_region_held_drew (S := (fun W : World => Chg W8 W (fun k => k = w.heap.size))) (by kernel_rfl) (Chg.of_below (Below.drew (Below.refl _ _))) (fun hS0 => ?_)
            have CW9 : Hid (Chg W8 W8.drew (fun k => k = w.heap.size)) := Chg.of_below (Below.drew (Below.refl _ _))
            have XW9 : Hid (W8.drew.heap[w.heap.size]? = some (.cells elemZC 24 (0, 0))) := X8.out
            generalize W8.drew = W9 at CW9 XW9 hS0 ⊢
            refine wpAnyH_take (i := 0) (oi := { dst := some 101, op := _, type := _, pos := _, after := _, guard := _ }) (v := ?_) rfl (by kernel_rfl) (by kernel_rfl) (by kernel_rfl) (fun _ _ _ h => h) (Or.inl ⟨by kernel_rfl, ?_⟩) (by assumption) ?_
            rotate_left
            · (intro w hSw; (try dsimp only at hSw); go_simp); all_goals (with_reducible rfl)
            try simp only [Act.put, List.setIfInBounds_toArray, List.set_cons_zero, List.set_cons_succ]
            refine wpAnyH_take (i := 1) (oi := { dst := some 102, op := _, type := _, pos := _, after := _, guard := _ }) (v := ?_) rfl (by kernel_rfl) (by kernel_rfl) (by kernel_rfl) (fun _ _ _ h => h) (Or.inl ⟨by kernel_rfl, ?_⟩) (by assumption) ?_
            rotate_left
            · (intro w hSw; (try dsimp only at hSw); go_simp); all_goals (with_reducible rfl)
            try simp only [Act.put, List.setIfInBounds_toArray, List.set_cons_zero, List.set_cons_succ]
            refine wpAnyH_take (i := 2) (oi := { dst := some 103, op := _, type := _, pos := _, after := _, guard := _ }) (v := ?_) rfl (by kernel_rfl) (by kernel_rfl) (by kernel_rfl) (fun _ _ _ h => h) (Or.inl ⟨by kernel_rfl, ?_⟩) (by assumption) ?_
            rotate_left
            · (intro w hSw; (try dsimp only at hSw); go_simp); all_goals (with_reducible rfl)
            try simp only [Act.put, List.setIfInBounds_toArray, List.set_cons_zero, List.set_cons_succ]
            refine wpAnyH_take (i := 3) (oi := { dst := some 104, op := _, type := _, pos := _, after := _, guard := _ }) (v := ?_) rfl (by kernel_rfl) (by kernel_rfl) (by kernel_rfl) (fun _ _ _ h => h) (Or.inl ⟨by kernel_rfl, ?_⟩) (by assumption) ?_
            rotate_left
            · (intro w hSw; (try dsimp only at hSw); go_simp); all_goals (with_reducible rfl)
            try simp only [Act.put, List.setIfInBounds_toArray, List.set_cons_zero, List.set_cons_succ]
            refine wpAnyH_take (i := 4) (oi := { dst := some 105, op := _, type := _, pos := _, after := _, guard := _ }) (v := ?_) rfl (by kernel_rfl) (by kernel_rfl) (by kernel_rfl) (fun _ _ _ h => h) (Or.inl ⟨by kernel_rfl, ?_⟩) (by assumption) ?_
            rotate_left
            · (intro w hSw; (try dsimp only at hSw); have j2 := Chg.cell hSw hn1 q2; have j3 := Chg.cell hSw hn2 qa; have j4 := Chg.cell hSw hn2 qb; go_simp); all_goals (with_reducible rfl)
            try simp only [Act.put, List.setIfInBounds_toArray, List.set_cons_zero, List.set_cons_succ]
            refine wpAnyH_take (i := 5) (oi := { dst := some 106, op := _, type := _, pos := _, after := _, guard := _ }) (v := ?_) rfl (by kernel_rfl) (by kernel_rfl) (by kernel_rfl) (fun _ _ _ h => h) (Or.inl ⟨by kernel_rfl, ?_⟩) (by assumption) ?_
            rotate_left
            · (intro w hSw; (try dsimp only at hSw); go_simp); all_goals (with_reducible rfl)
            try simp only [Act.put, List.setIfInBounds_toArray, List.set_cons_zero, List.set_cons_succ]
            refine wpAnyH_take (i := 6) (oi := { dst := some 107, op := _, type := _, pos := _, after := _, guard := _ }) (v := ?_) rfl (by kernel_rfl) (by kernel_rfl) (by kernel_rfl) (fun _ _ _ h => h) (Or.inl ⟨by kernel_rfl, ?_⟩) (by assumption) ?_
            rotate_left
            · (intro w hSw; (try dsimp only at hSw); go_simp); all_goals (with_reducible rfl)
            try simp only [Act.put, List.setIfInBounds_toArray, List.set_cons_zero, List.set_cons_succ]
            refine wpAnyH_take (i := 7) (oi := { dst := some 108, op := _, type := _, pos := _, after := _, guard := _ }) (v := ?_) rfl (by kernel_rfl) (by kernel_rfl) (by kernel_rfl) (fun _ _ _ h => h) (Or.inl ⟨by kernel_rfl, ?_⟩) (by assumption) ?_
            rotate_left
            · (intro w hSw; (try dsimp only at hSw); have j2 := Chg.cell hSw hn1 q2; have j3 := Chg.cell hSw hn2 qa; have j4 := Chg.cell hSw hn2 qb; go_simp); all_goals (with_reducible rfl)
            try simp only [Act.put, List.setIfInBounds_toArray, List.set_cons_zero, List.set_cons_succ]
            refine wpAnyH_take (i := 8) (oi := { dst := some 109, op := _, type := _, pos := _, after := _, guard := _ }) (v := ?_) rfl (by kernel_rfl) (by kernel_rfl) (by kernel_rfl) (fun _ _ _ h => h) (Or.inl ⟨by kernel_rfl, ?_⟩) (by assumption) ?_
            rotate_left
            · (intro w hSw; (try dsimp only at hSw); go_simp); all_goals (with_reducible rfl)
            try simp only [Act.put, List.setIfInBounds_toArray, List.set_cons_zero, List.set_cons_succ]
            refine wpAnyH_take (i := 9) (oi := { dst := some 110, op := _, type := _, pos := _, after := _, guard := _ }) (v := ?_) rfl (by kernel_rfl) (by kernel_rfl) (by kernel_rfl) (fun _ _ _ h => h) (Or.inl ⟨by kernel_rfl, ?_⟩) (by assumption) ?_
            rotate_left
            · (intro w hSw; (try dsimp only at hSw); go_simp); all_goals (with_reducible rfl)
            try simp only [Act.put, List.setIfInBounds_toArray, List.set_cons_zero, List.set_cons_succ]
            refine wpAnyH_take (i := 10) (oi := { dst := some 111, op := _, type := _, pos := _, after := _, guard := _ }) (v := ?_) rfl (by kernel_rfl) (by kernel_rfl) (by kernel_rfl) (fun _ _ _ h => h) (Or.inl ⟨by kernel_rfl, ?_⟩) (by assumption) ?_
            rotate_left
            · (intro w hSw; (try dsimp only at hSw); go_simp); all_goals (with_reducible rfl)
            try simp only [Act.put, List.setIfInBounds_toArray, List.set_cons_zero, List.set_cons_succ]
            refine wpAnyH_take (i := 11) (oi := { dst := some 112, op := _, type := _, pos := _, after := _, guard := _ }) (v := ?_) rfl (by kernel_rfl) (by kernel_rfl) (by kernel_rfl) (fun _ _ _ h => h) (Or.inl ⟨by kernel_rfl, ?_⟩) (by assumption) ?_
            rotate_left
            · (intro w hSw; (try dsimp only at hSw); have j2 := Chg.cell hSw hn1 q2; have j3 := Chg.cell hSw hn2 qa; have j4 := Chg.cell hSw hn2 qb; go_simp); all_goals (with_reducible rfl)
            try simp only [Act.put, List.setIfInBounds_toArray, List.set_cons_zero, List.set_cons_succ]
            refine wpAnyH_take (i := 12) (oi := { dst := some 113, op := _, type := _, pos := _, after := _, guard := _ }) (v := ?_) rfl (by kernel_rfl) (by kernel_rfl) (by kernel_rfl) (fun _ _ _ h => h) (Or.inl ⟨by kernel_rfl, ?_⟩) (by assumption) ?_
            rotate_left
            · (intro w hSw; (try dsimp only at hSw); go_simp); all_goals (with_reducible rfl)
            try simp only [Act.put, List.setIfInBounds_toArray, List.set_cons_zero, List.set_cons_succ]
            refine wpAnyH_take (i := 13) (oi := { dst := some 114, op := _, type := _, pos := _, after := _, guard := _ }) (v := ?_) rfl (by kernel_rfl) (by kernel_rfl) (by kernel_rfl) (fun _ _ _ h => h) (Or.inl ⟨by kernel_rfl, ?_⟩) (by assumption) ?_
            rotate_left
            · (intro w hSw; (try dsimp only at hSw); go_simp); all_goals (with_reducible rfl)
            try simp only [Act.put, List.setIfInBounds_toArray, List.set_cons_zero, List.set_cons_succ]
            refine wpAnyH_take (i := 14) (oi := { dst := some 115, op := _, type := _, pos := _, after := _, guard := _ }) (v := ?_) rfl (by kernel_rfl) (by kernel_rfl) (by kernel_rfl) (fun _ _ _ h => h) (Or.inl ⟨by kernel_rfl, ?_⟩) (by assumption) ?_
            rotate_left
            · (intro w hSw; (try dsimp only at hSw); have j2 := Chg.cell hSw hn1 q2; have j3 := Chg.cell hSw hn2 qa; have j4 := Chg.cell hSw hn2 qb; go_simp); all_goals (with_reducible rfl)
            try simp only [Act.put, List.setIfInBounds_toArray, List.set_cons_zero, List.set_cons_succ]
            refine wpAnyH_take (i := 15) (oi := { dst := some 116, op := _, type := _, pos := _, after := _, guard := _ }) (v := ?_) rfl (by kernel_rfl) (by kernel_rfl) (by kernel_rfl) (fun _ _ _ h => h) (Or.inl ⟨by kernel_rfl, ?_⟩) (by assumption) ?_
            rotate_left
            · (intro w hSw; (try dsimp only at hSw); go_simp); all_goals (with_reducible rfl)
            try simp only [Act.put, List.setIfInBounds_toArray, List.set_cons_zero, List.set_cons_succ]
            refine wpAnyH_ready (rs := [16, 18]) (by kernel_rfl) (by simp) ?_
            refine (AllReadyH.cons (o := { dst := some 117, op := _, type := _, pos := _, after := _, guard := _ }) rfl (fun K hK => ?_) (AllReadyH.cons (o := { dst := none, op := _, type := _, pos := _, after := _, guard := _ }) rfl (fun K hK => ?_) AllReadyH.nil))
            · rw [if_pos (by kernel_rfl)]
              go_wp2_with fail
              have Cz1 := Lib.hid (Chg.below_on CW9.out (below_alloc (Below.refl _ _) (Nat.le_refl _) (.cells #[.int .i64 zc, .int .i64 zp, .nilIface] 55)))
              have Xz1 := Lib.hid (heap_old (.cells #[.int .i64 zc, .int .i64 zp, .nilIface] 55) XW9.out)
              have FFz1 := Lib.hid (heap_alloc_new W9 (.cells #[.int .i64 zc, .int .i64 zp, .nilIface] 55))
              have FLz1 := Lib.hid CW9.out.size
              refine hK.out _ (W9.alloc (.cells #[.int .i64 zc, .int .i64 zp, .nilIface] 55)) Cz1.out (fun hSe => ?_)
              generalize W9.alloc (.cells #[.int .i64 zc, .int .i64 zp, .nilIface] 55) = z1 at Cz1 Xz1 FFz1 hSe ⊢
              generalize W9.heap.size = F at FFz1 FLz1 ⊢
              clear hK K
              try simp only [Act.put, List.setIfInBounds_toArray, List.set_cons_zero, List.set_cons_succ]
              refine wpAnyH_take (i := 17) (oi := { dst := some 118, op := _, type := _, pos := _, after := _, guard := _ }) (v := ?_) rfl (by kernel_rfl) (by kernel_rfl) (by kernel_rfl) (fun _ _ _ h => h) (Or.inl ⟨by kernel_rfl, ?_⟩) (by assumption) ?_
              rotate_left
              · (intro w hSw; (try dsimp only at hSw); go_simp); all_goals (with_reducible rfl)
              try simp only [Act.put, List.setIfInBounds_toArray, List.set_cons_zero, List.set_cons_succ]
              refine wpAnyH_ready (rs := [18]) (by kernel_rfl) (by simp) ?_
              refine (AllReadyH.cons (o := { dst := none, op := _, type := _, pos := _, after := _, guard := _ }) rfl (fun K hK => ?_) AllReadyH.nil)
              rw [if_pos (by kernel_rfl)]
              refine wp_store_partN 24 _ _ (by rfl) w.heap.size 0 [.string ⟨#[]⟩, .string ⟨#[]⟩, .slice none 0 0] (by rfl) (by rfl) 24 elemZC Xz1.out (by exact Nat.le_of_ble_eq_true rfl) (by kernel_rfl) (by rfl) (fun W => W.heap[w.heap.size]? = some (.cells elemZC 24 (0, 0)) ∧ Chg z1 W (fun k => k = w.heap.size)) (by exact ⟨setRow_heap _ _ _ _ _ _ Xz1.out, Chg.setRow_on (Chg.refl _ _) _ rfl⟩) ?_
              intro z2 hz2
              have Cz2 := Lib.hid (Cz1.out.trans hz2.2)
              have Xz2 := Lib.hid hz2.1
              have FFz2 := Lib.hid ((hz2.2.block F (Array.getElem?_eq_some_iff.1 FFz1.out).1 (by have := FLz1.out; have := (Array.getElem?_eq_some_iff.1 X8.out).1; show F ≠ w.heap.size; omega)).trans FFz1.out)
              clear hz2
              refine hK.out _ z2 Cz2.out (fun hSe => ?_)
              clear hK K
              try simp only [Act.put]
              refine wpAnyH_take (i := 19) (oi := { dst := some 3, op := _, type := _, pos := _, after := _, guard := _ }) (v := ?_) rfl (by kernel_rfl) (by kernel_rfl) (by kernel_rfl) (fun _ _ _ h => h) (Or.inl ⟨by kernel_rfl, ?_⟩) (by assumption) ?_
              rotate_left
              · (intro w hSw; (try dsimp only at hSw); go_simp); all_goals (with_reducible rfl)
              try simp only [Act.put, List.setIfInBounds_toArray, List.set_cons_zero, List.set_cons_succ]
              refine wpAnyH_done (by kernel_rfl) ?_ _
              go_wp2_with fail
              refine bodyPost_ret (results_cell_tmp rfl _ _ w.heap.size 24 _ _ rfl Xz2.out Tryz.underlying24 rfl (by kernel_rfl)) rfl ?_
              rw [HE.out]
              have h9b := Cz2.out
              have hs8 := HM8.out.size
              have hs9 := h9b.size
              have hx8 := (Array.getElem?_eq_some_iff.1 X8.out).1
              exact ⟨⟨h9b.os.trans (HM8.out.os.trans B2.out.os), h9b.tape.trans (HM8.out.tape.trans B2.out.tape), h9b.output.trans (HM8.out.output.trans B2.out.output), by omega, fun k hk => (h9b.block k (by omega) (by show k ≠ w.heap.size; omega)).trans (B8.out k hk)⟩, F, rfl, FFz2.out, by have := FLz1.out; omega⟩
            · rw [if_pos (by kernel_rfl)]
              refine wp_store_partN 24 _ _ (by rfl) w.heap.size 0 [.string ⟨#[]⟩, .string ⟨#[]⟩, .slice none 0 0] (by rfl) (by rfl) 24 elemZC XW9.out (by exact Nat.le_of_ble_eq_true rfl) (by kernel_rfl) (by rfl) (fun W => W.heap[w.heap.size]? = some (.cells elemZC 24 (0, 0)) ∧ Chg W9 W (fun k => k = w.heap.size)) (by exact ⟨setRow_heap _ _ _ _ _ _ XW9.out, Chg.setRow_on (Chg.refl _ _) _ rfl⟩) ?_
              intro z3 hz3
              have Cz3 := Lib.hid (CW9.out.trans hz3.2)
              have Xz3 := Lib.hid hz3.1
              clear hz3
              refine hK.out _ z3 Cz3.out (fun hSe => ?_)
              clear hK K
              try simp only [Act.put]
              refine wpAnyH_ready (rs := [16]) (by kernel_rfl) (by simp) ?_
              refine (AllReadyH.cons (o := { dst := some 117, op := _, type := _, pos := _, after := _, guard := _ }) rfl (fun K hK => ?_) AllReadyH.nil)
              rw [if_pos (by kernel_rfl)]
              go_wp2_with fail
              have Cz4 := Lib.hid (Chg.below_on Cz3.out (below_alloc (Below.refl _ _) (Nat.le_refl _) (.cells #[.int .i64 zc, .int .i64 zp, .nilIface] 55)))
              have Xz4 := Lib.hid (heap_old (.cells #[.int .i64 zc, .int .i64 zp, .nilIface] 55) Xz3.out)
              have FFz4 := Lib.hid (heap_alloc_new z3 (.cells #[.int .i64 zc, .int .i64 zp, .nilIface] 55))
              have FLz4 := Lib.hid Cz3.out.size
              refine hK.out _ (z3.alloc (.cells #[.int .i64 zc, .int .i64 zp, .nilIface] 55)) Cz4.out (fun hSe => ?_)
              generalize z3.alloc (.cells #[.int .i64 zc, .int .i64 zp, .nilIface] 55) = z4 at Cz4 Xz4 FFz4 hSe ⊢
              generalize z3.heap.size = F at FFz4 FLz4 ⊢
              clear hK K
              try simp only [Act.put, List.setIfInBounds_toArray, List.set_cons_zero, List.set_cons_succ]
              refine wpAnyH_take (i := 17) (oi := { dst := some 118, op := _, type := _, pos := _, after := _, guard := _ }) (v := ?_) rfl (by kernel_rfl) (by kernel_rfl) (by kernel_rfl) (fun _ _ _ h => h) (Or.inl ⟨by kernel_rfl, ?_⟩) (by assumption) ?_
              rotate_left
              · (intro w hSw; (try dsimp only at hSw); go_simp); all_goals (with_reducible rfl)
              try simp only [Act.put, List.setIfInBounds_toArray, List.set_cons_zero, List.set_cons_succ]
              refine wpAnyH_take (i := 19) (oi := { dst := some 3, op := _, type := _, pos := _, after := _, guard := _ }) (v := ?_) rfl (by kernel_rfl) (by kernel_rfl) (by kernel_rfl) (fun _ _ _ h => h) (Or.inl ⟨by kernel_rfl, ?_⟩) (by assumption) ?_
              rotate_left
              · (intro w hSw; (try dsimp only at hSw); go_simp); all_goals (with_reducible rfl)
              try simp only [Act.put, List.setIfInBounds_toArray, List.set_cons_zero, List.set_cons_succ]
              refine wpAnyH_done (by kernel_rfl) ?_ _
              go_wp2_with fail
              refine bodyPost_ret (results_cell_tmp rfl _ _ w.heap.size 24 _ _ rfl Xz4.out Tryz.underlying24 rfl (by kernel_rfl)) rfl ?_
              rw [HE.out]
              have h9b := Cz4.out
              have hs8 := HM8.out.size
              have hs9 := h9b.size
              have hx8 := (Array.getElem?_eq_some_iff.1 X8.out).1
              exact ⟨⟨h9b.os.trans (HM8.out.os.trans B2.out.os), h9b.tape.trans (HM8.out.tape.trans B2.out.tape), h9b.output.trans (HM8.out.output.trans B2.out.output), by omega, fun k hk => (h9b.block k (by omega) (by show k ≠ w.heap.size; omega)).trans (B8.out k hk)⟩, F, rfl, FFz4.out, by have := FLz4.out; omega⟩
          | ok t =>
            rw [htx] at HS8
            have HE : Hid (parseL S.data.toList = .ok t) := by show _ = _; rw [HP.out, htx]
            obtain ⟨z, ⟨az, cz, rfl⟩, q2, e8, el8⟩ := HS8.out
            have E8 := Lib.hid e8
            have EL8 := Lib.hid el8
            clear e8 el8 htx
            go_wp2_with (first
              | (refine wpList_load_row (by rfl) 24 _ (by rfl) be (by rfl) 24 #[.string t.name, .string t.text, .slice az t.kids.length cz] (0, 0) _ (by exact E8.out) Tryz.underlying24 rfl (by kernel_rfl) ?_)
              | (refine wpList_store_rowN (by rfl) 24 _ _ (by rfl) w.heap.size #[.string t.name, .string t.text, .slice az t.kids.length cz] (by rfl) (by rfl) 24 elemZC (by exact X8.out) (by kernel_rfl) (by rfl) (by kernel_rfl) (fun W => W.heap[w.heap.size]? = some (.cells #[.string t.name, .string t.text, .slice az t.kids.length cz] 24 (0, 0)) ∧ Chg W8 W (fun k => k = w.heap.size)) (by exact ⟨setRow_heap _ _ _ _ _ _ X8.out, Chg.setRow_on (Chg.refl _ _) _ rfl⟩) ?_; rintro W9 h9))
            refine bodyPost_ret (results_cell_tmp rfl _ _ w.heap.size 24 _ _ rfl h9.1 Tryz.underlying24 rfl (by kernel_rfl)) rfl ?_
            rw [HE.out]
            have h9b := h9.2
            have hs8 := HM8.out.size
            have hs9 := h9b.size
            refine ⟨⟨h9b.os.trans (HM8.out.os.trans B2.out.os), h9b.tape.trans (HM8.out.tape.trans B2.out.tape), h9b.output.trans (HM8.out.output.trans B2.out.output), by omega, fun k hk => (h9b.block k (by omega) (by show k ≠ w.heap.size; omega)).trans (B8.out k hk)⟩, _, rfl, ?_⟩
            have h10 : ElE W9 W6.heap.size W9.heap.size t (.slice az t.kids.length cz) := EL8.out.kept hs9 fun k h1 h2 _ => h9b.block k h2 (by show k ≠ w.heap.size; omega)
            exact h10.own.base (by omega)
end Go.Proofs.YtgmgghbocidibaaGreatDoor
