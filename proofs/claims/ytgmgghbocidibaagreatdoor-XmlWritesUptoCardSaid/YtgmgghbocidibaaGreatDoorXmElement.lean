/-
  xml's reader: element: the outermost one.
-/
import Derived.Test.YtgmgghbocidibaaGreatDoorXmWith
import Derived.WalkMore
namespace Go.Proofs.YtgmgghbocidibaaGreatDoor
open Go.RowKit Go.Lib Go.PlainAid

/-- how element ends -/
def ElOut (b : Nat) (S : ByteArray) (st : R (Tree × Bs)) (w : World) (e : Ending) (w' : World) : Prop :=
  Mine b w w' ∧ match st with
    | .ok (t, r) => (∃ z, e = .returned (.agg #[.string t.name, .string t.text, z]) ∧ ElE w' w.heap.size w'.heap.size t z) ∧ ∃ pv, RdAt w' b S r pv
    | .error (c, k) => e = .returned (.agg elemZC) ∧ MachBad w' b S c k
theorem Mach.none {w : World} {b : Nat} {S : ByteArray} {r : Bs} (hr : RdAt w b S r (.slice none 0 0)) : Mach w b w.heap.size S r [] :=
  ⟨_, [], hr, World.ownsRow_nil _ _ _ _, trivial, fun _ h => (by cases h), hr.lt, Nat.le_refl _⟩
/-- the outermost element is told -/
theorem root_elem {W : World} {b B bx : Nat} {S : ByteArray} {r : Bs} {o : Opn} (h : Mach W b B S r [o]) (hs : o.name.length ≤ 100 ∧ o.text.length ≤ 100000 ∧ o.kids.length ≤ 100000) (hbx : bx < B) (hne : bx ≠ b) :
    ∃ pb cv g kv, W.cell? ⟨b, 3, none⟩ = some (.slice (some ⟨pb, 0, none⟩) 1 cv) ∧ W.cell? ⟨b, 2, none⟩ = some (.pointer none) ∧ W.cell? ⟨pb, 0, none⟩ = some (.pointer (some ⟨g, 0, none⟩)) ∧ (∃ a c, kv = .slice a o.kids.length c) ∧
      Calls Tryz.prog 41 #[.pointer (some ⟨g, 0, none⟩)] W fun e W' => e = .returned (.agg #[.string o.elem.name, .string o.elem.text, kv]) ∧ From b B W W' ∧ (W'.heap[bx]? = W.heap[bx]?) ∧ ElE W' B W'.heap.size o.elem kv ∧ ∃ pv, RdAt W' b S r pv := by
  obtain ⟨pv, gs, hR, hP⟩ := h.ex
  obtain ⟨g, rfl⟩ : ∃ g, gs = [g] := by
    have := hP.at_.len
    match gs, this with
    | [g], _ => exact ⟨g, rfl⟩
    | [], h => simp at h
    | _ :: _ :: _, h => simp at h
  obtain ⟨⟨kv, v, hO⟩, _⟩ := hP.at_
  obtain ⟨pb, cv, rfl, hpb, hpl⟩ := hP.row.form (by simp)
  obtain ⟨a, -, -, -, -, -, q2, q3, -⟩ := hR.cells
  have hBg := hP.far g (by simp)
  have hlow := hP.low
  have hc := hP.row.cells (g := pb) rfl 0 (ptr g) rfl
  refine ⟨pb, cv, g, kv, q3, q2, hc, hO.kids.form, (elem_any hO hs.2.1).mono ?_⟩
  rintro e W' ⟨rfl, hch⟩
  have hM : ∀ k, ElM g v k → B ≤ k := fun k hk => by have := (hO.lt_of hk).1; omega
  refine ⟨rfl, Chg.mono hch fun k _ e => .inr (hM k e), hch.block bx (by have := hP.hi; omega) (fun e => by have := hM bx e; omega), ?_, _, hR.chg hch (fun e => by have := hM b e; omega)⟩
  have h1 : ElE W B W.heap.size o.elem kv := by
    obtain ⟨ok, h2, h3⟩ := (hO.kids.elem hs.1 hs.2.1 hs.2.2).tree
    exact ⟨ok, h2, fun k hk => ⟨by have := (h3 k hk).1; omega, (h3 k hk).2⟩⟩
  exact h1.kept hch.size fun k _ _ hE => hch.block k hE.lt (fun e => (hO.lt_of e).2.2 hE)

theorem RdBad.farE {w w' : World} {b g : Nat} {S : ByteArray} {c : Int} {k : Nat} {pv : Value} {cs : Array Value} (h : RdBad w b S c k pv) (hc : Chg w w' (fun k => k = g)) (hg : w.heap[g]? = some (.cells cs 24 (0, 0))) (hgb : b ≠ g) : RdBad w' b S c k pv := by
  obtain ⟨a, q, h1, h2, h3, h4, h5, h6⟩ := h
  refine ⟨a, q, h1, h2, h3, (hc.block b (Array.getElem?_eq_some_iff.1 h4).1 hgb).trans h4, (hc.block q (Array.getElem?_eq_some_iff.1 h5).1 (fun e => ?_)).trans h5, h6⟩
  subst e
  exact absurd (type_eq hg h5) (by decide)
theorem Mine.from {w W W' : World} {b B : Nat} (h : Mine b w W) (f : From b B W W') (hB : w.heap.size ≤ B) : Mine b w W' :=
  ⟨f.os.trans h.os, f.tape.trans h.tape, f.output.trans h.output, Nat.le_trans h.size f.size, fun k hk hn => (f.block k (Nat.lt_of_lt_of_le hk h.size) (by rintro (e | e); exact hn e; omega)).trans (h.block k hk hn)⟩
/-- the result's box was written last -/
theorem ElOut.finish {w W3 W4 : World} {b B bx : Nat} {S : ByteArray} {r : Bs} {t : Tree} {z pv : Value} {cs : Array Value} (F : Mine b w W3) (X : W3.heap[bx]? = some (.cells cs 24 (0, 0))) (h4 : Chg W3 W4 (fun k => k = bx)) (hbx : w.heap.size = bx) (hel : ElE W3 B W3.heap.size t z) (hr : RdAt W3 b S r pv) (hB : bx < B) (hne : bx ≠ b) :
    ElOut b S (.ok (t, r)) w (.returned (.agg #[.string t.name, .string t.text, z])) W4 := by
  refine ⟨⟨h4.os.trans F.os, h4.tape.trans F.tape, h4.output.trans F.output, Nat.le_trans F.size h4.size, fun k hk hn => (h4.block k (Nat.lt_of_lt_of_le hk F.size) (by show k ≠ bx; omega)).trans (F.block k hk hn)⟩, ⟨z, rfl, ?_⟩, pv, hr.chg h4 (fun e => hne e.symm)⟩
  have h5 := hel.kept (w' := W4) h4.size fun k h1 h2 _ => h4.block k h2 (by show k ≠ bx; omega)
  obtain ⟨ok, h6, h7⟩ := h5.tree
  exact ⟨ok, h6, fun k hk => ⟨by have := (h7 k hk).1; omega, (h7 k hk).2⟩⟩

set_option maxHeartbeats 8000000 in
set_option maxRecDepth 100000 in
theorem element_any {w : World} {b : Nat} {S : ByteArray} {r : Bs} (h : RdAt w b S r (.slice none 0 0)) (hG : GlobX w) (hb8 : 8 ≤ b) :
    Calls Tryz.prog 29 #[.pointer (some ⟨b, 0, none⟩)] w (ElOut b S (elementL r) w) := by
  have hS8 : r.length ≤ 8000 := by obtain ⟨a, h1, h2, h3, -⟩ := h; have := xt_len h3; omega
  have hbl := h.lt
  have HR := Lib.hid h
  have HG := Lib.hid hG
  clear h hG
  go_enter Tryz.func29, Tryz.ntmps29
  go_upto_region 1 with (fail)
  obtain ⟨bx, hbx⟩ : ∃ bx, w.heap.size = bx := ⟨_, rfl⟩
  obtain ⟨W1, hW1⟩ : ∃ W1, w.alloc (.cells elemZC 24) = W1 := ⟨_, rfl⟩
  have hb1 : Below w.heap.size w W1 := by rw [← hW1]; exact below_alloc (Below.refl _ _) (Nat.le_refl _) _
  have X1 : Hid (W1.heap[bx]? = some (.cells elemZC 24 (0, 0))) := by show _ = _; rw [← hW1, ← hbx]; exact heap_alloc_new _ _
  have B1 := Lib.hid hb1
  have M1 := Lib.hid (Mach.none (HR.out.later hb1))
  have HBX := Lib.hid hbx
  obtain ⟨B, hB⟩ : ∃ B, W1.heap.size = B := ⟨_, rfl⟩
  have hBX : bx < B := by rw [← hB]; exact (Array.getElem?_eq_some_iff.1 X1.out).1
  have hne : bx ≠ b := by omega
  rw [hB] at M1
  unfold elemZC at hW1
  rw [hW1, hbx]
  have HBG := Lib.hid (rbegin_any M1.out (by decide))
  clear hW1 hb1 hB hbx
  go_step3
  cases hbg : beginL 0 r with
  | error e =>
    rw [show beginL ([] : List Opn).length r = .error e from hbg] at HBG
    have HE : Hid (elementL r = .error e) := by show _ = _; unfold elementL; rw [hbg]; rfl
    clear hbg
    go_wp2_with fail
    refine (HBG.out).mono ?_
    rintro e' W2 ⟨f2, rfl, pv, h2⟩
    have X2 := Lib.hid ((f2.block bx (Array.getElem?_eq_some_iff.1 X1.out).1 (by omega)).trans X1.out)
    obtain ⟨q, q2⟩ := RdBad.bad h2
    have H2 := Lib.hid h2
    have F2 : Hid (Mine b w W2) := (Chg.of_below B1.out).trans f2 |>.mono fun k hk e => by rw [HBX.out] at hk; rcases e with e | e; exact e; omega
    clear h2 f2
    go_wp2_with (refine wpList_store_rowN (by rfl) 24 _ _ (by rfl) bx elemZC (by rfl) (by rfl) 24 elemZC (by exact X2.out) (by kernel_rfl) (by rfl) (by kernel_rfl) (fun W => W.heap[bx]? = some (.cells elemZC 24 (0, 0)) ∧ Chg W2 W (fun k => k = bx)) (by exact ⟨setRow_heap _ _ _ _ _ _ X2.out, Chg.setRow_on (Chg.refl _ _) _ rfl⟩) ?_; rintro W3 h3)
    rw [Exit.noGoto_ret]
    refine bodyPost_ret (results_cell_row rfl _ _ bx 24 _ _ _ rfl h3.1 Tryz.underlying24 rfl (by kernel_rfl)) rfl ?_
    rw [HE.out]
    refine ⟨⟨h3.2.os.trans F2.out.os, h3.2.tape.trans F2.out.tape, h3.2.output.trans F2.out.output, Nat.le_trans F2.out.size h3.2.size, fun k hk hn => (h3.2.block k (Nat.lt_of_lt_of_le hk F2.out.size) (by have := HBX.out; show k ≠ bx; omega)).trans (F2.out.block k hk hn)⟩, rfl, pv, ?_⟩
    exact H2.out.farE h3.2 X2.out (Ne.symm hne)
  | ok z =>
    obtain ⟨n, m, r1⟩ := z
    rw [show beginL ([] : List Opn).length r = .ok (n, m, r1) from hbg] at HBG
    have HBO := Lib.hid (begin_ok hbg)
    have HOO : Hid (OpnOK 0 (opn n)) := opn_ok (by omega) HBO.out.2.2.1
    cases m with
    | false =>
      have HE : Hid (elementL r = .ok ((opn n).elem, r1)) := by show _ = _; unfold elementL; rw [ok_bind hbg]; rfl
      clear hbg
      go_wp2_with fail
      refine (HBG.out).mono ?_
      rintro e' W2 ⟨f2, rfl, m2⟩
      have X2 := Lib.hid ((f2.block bx (Array.getElem?_eq_some_iff.1 X1.out).1 (by omega)).trans X1.out)
      have F2 : Hid (Mine b w W2) := (Chg.of_below B1.out).trans f2 |>.mono fun k hk e => by rw [HBX.out] at hk; rcases e with e | e; exact e; omega
      obtain ⟨pb, cv, g, kv, q3, q2, c0, ⟨ak, ck, rfl⟩, hel⟩ := root_elem m2 (opn_small HOO.out (by have := opn_w n; have := HBO.out.1; omega)) hBX hne
      have HEL := Lib.hid hel
      clear hel m2 f2
      go_wp2_with fail
      refine (HEL.out).mono ?_
      rintro e' W3 ⟨rfl, f3, hx3, el3, pv, hr3⟩
      have X3 := Lib.hid (hx3.trans X2.out)
      have F3 : Hid (Mine b w W3) := Mine.from F2.out f3 (by have := HBX.out; omega)
      have EL3 := Lib.hid el3
      have HR3 := Lib.hid hr3
      clear f3 hx3 el3 hr3 q3 q2 c0
      go_wp2_with (refine wpList_store_rowN (by rfl) 24 _ _ (by rfl) bx #[.string (opn n).elem.name, .string (opn n).elem.text, .slice ak (opn n).kids.length ck] (by rfl) (by rfl) 24 elemZC (by exact X3.out) (by kernel_rfl) (by rfl) (by kernel_rfl) (fun W => W.heap[bx]? = some (.cells #[.string (opn n).elem.name, .string (opn n).elem.text, .slice ak (opn n).kids.length ck] 24 (0, 0)) ∧ Chg W3 W (fun k => k = bx)) (by exact ⟨setRow_heap _ _ _ _ _ _ X3.out, Chg.setRow_on (Chg.refl _ _) _ rfl⟩) ?_; rintro W4 h4)
      rw [Exit.noGoto_ret]
      refine bodyPost_ret (results_cell_row rfl _ _ bx 24 _ _ _ rfl h4.1 Tryz.underlying24 rfl (by kernel_rfl)) rfl ?_
      rw [HE.out]
      exact ElOut.finish F3.out X3.out h4.2 HBX.out EL3.out HR3.out hBX hne
    | true =>
      have HE : Hid (elementL r = run [opn n] r1) := by show _ = _; unfold elementL; rw [ok_bind hbg]; rfl
      clear hbg
      go_wp2_with fail
      refine (HBG.out).mono ?_
      rintro e' W2 ⟨f2, rfl, m2⟩
      have X2 := Lib.hid ((f2.block bx (Array.getElem?_eq_some_iff.1 X1.out).1 (by omega)).trans X1.out)
      have F2 : Hid (Mine b w W2) := (Chg.of_below B1.out).trans f2 |>.mono fun k hk e => by rw [HBX.out] at hk; rcases e with e | e; exact e; omega
      have G2 : Hid (GlobX W2) := (HG.out.from (b := b) (B := B) ((From.below B1.out).trans f2) hb8 (by omega) (by have := HBX.out; omega))
      have M2 := Lib.hid m2
      have hr1 : r1.length ≤ 8000 := by have := HBO.out.1; omega
      clear m2 f2
      have hbB : b < B := by have := HBX.out; omega
      have hwB : w.heap.size ≤ B := by have := HBX.out; omega
      have HIV : Hid (stackW [opn n] + 6 * r1.length ≤ 48000) := by
        have h1 := HBO.out.1
        have h2 := opn_w n
        show _ ≤ _
        simp only [stackW, if_true] at *
        omega
      go_wp2_with fail
      go_step3
      go_wp2_with fail
      go_loopg [] (r1.length + 1) (fun gg wr => ∃ (ps : List Opn) (r' : Bs), r'.length + 1 ≤ gg ∧ Hid (Mach wr b B S r' ps) ∧ Hid (ps ≠ []) ∧ Hid (StackOK ps) ∧ Hid (stackW ps + 6 * r'.length ≤ 48000) ∧ Hid (elementL r = run ps r') ∧ Hid (Mine b w wr) ∧ Hid (wr.heap[bx]? = some (.cells elemZC 24 (0, 0))))
      case atStart => exact ⟨[opn n], r1, Nat.le_refl _, M2.out, by show _ ≠ _; simp, ⟨HOO.out, trivial⟩, HIV.out, HE.out, F2.out, X2.out⟩
      case round =>
        obtain ⟨ps, r', hg, HM, HNE, HSO, HSW, HEL, HF, HX⟩ := hrel
        obtain ⟨o, around, rfl⟩ : ∃ o around, ps = o :: around := by cases ps with | nil => exact absurd rfl HNE.out | cons o around => exact ⟨o, around, rfl⟩
        have HGX := Lib.hid (HG.out.from (b := b) (B := B) (From.mine HF.out) hb8 (by omega) hbB)
        obtain ⟨pv, gs, hR, hP⟩ := HM.out.ex
        obtain ⟨pb, cv, rfl, hpb, hpl⟩ := hP.row.form (by simp)
        obtain ⟨a0, -, -, -, -, -, q2, q3, -⟩ := hR.cells
        have hal : (around.length : Int) ≤ 20 := by have := HSO.out.1.1; omega
        have HAH := Lib.hid (rahead_any hR [60, 47])
        obtain ⟨y, hy⟩ : ∃ y, ([60, 47] : Bs).isPrefixOf r' = y := ⟨_, rfl⟩
        rw [hy] at HAH
        have HY := Lib.hid hy
        have HRP := Lib.hid (And.intro hR hP)
        clear hR hP hy q2
        rw [show (o :: around).length = around.length + 1 from rfl] at q3
        go_upto_region 5 with (fail)
        go_cut [3] (fun s3 wx => s3 = .bool (decide (around.length = 0) && y) ∧ Hid (Below wr.heap.size wr wx))
        case first =>
          by_cases ha0 : around.length = 0
          · have HD : Hid (decide (around.length = 0) = true) := decide_eq_true ha0
            have haz : (around.length : Int) + 1 = 1 := by omega
            rw [ha0] at q3
            clear ha0 haz
            go_wp2_with fail
            refine (HAH.out).mono ?_
            rintro e' W3 ⟨rfl, hb3⟩
            have B3 := Lib.hid hb3
            clear hb3
            go_wp2_with fail
            go_meet
            case rel => exact ⟨by rw [HD.out]; rfl, B3.out⟩
          · have HD : Hid (decide (around.length = 0) = false) := decide_eq_false ha0
            have haz : ((around.length : Int) + 1 == 1) = false := beq_eq_false_iff_ne.2 (by omega)
            clear ha0
            go_wp2_with fail
            go_meet
            case rel => exact ⟨by rw [HD.out]; rfl, Below.refl _ _⟩
        case rest =>
          obtain ⟨rfl, B3⟩ := hcut
          generalize wc = W3 at *
          have M3 : Hid (Mach W3 b B S r' (o :: around)) := ⟨_, _, HRP.out.1.later B3.out, HRP.out.2.below B3.out⟩
          have HWI := Lib.hid (within_any M3.out HSO.out HSW.out (HGX.out.from (b := b) (B := B) (From.below B3.out) hb8 (by have := HF.out.size; omega) hbB) hb8)
          clear HAH q3
          cases hst : stepL o around r' with
          | error z =>
            rw [hst] at HWI
            have HEE : Hid (elementL r = .error z) := by show _ = _; rw [HEL.out, run_fail hst]
            clear hst
            go_wp2_with fail
            refine (HWI.out).mono ?_
            rintro e' W4 ⟨rfl, f4, pv4, h4⟩
            obtain ⟨q, q2⟩ := RdBad.bad h4
            have hbig : bx < wr.heap.size := (Array.getElem?_eq_some_iff.1 HX.out).1
            have X4 := Lib.hid ((f4.block bx (by have := B3.out.size; omega) (by omega)).trans ((B3.out.block bx hbig).trans HX.out))
            have F4 := Lib.hid (Mine.from (HF.out.below_on B3.out) f4 hwB)
            have H4 := Lib.hid h4
            clear h4 f4
            go_wp2_with (refine wpList_store_rowN (by rfl) 24 _ _ (by rfl) bx elemZC (by rfl) (by rfl) 24 elemZC (by exact X4.out) (by kernel_rfl) (by rfl) (by kernel_rfl) (fun W => W.heap[bx]? = some (.cells elemZC 24 (0, 0)) ∧ Chg W4 W (fun k => k = bx)) (by exact ⟨setRow_heap _ _ _ _ _ _ X4.out, Chg.setRow_on (Chg.refl _ _) _ rfl⟩) ?_; rintro W5 h5)
            rw [Exit.noGoto_ret]
            refine bodyPost_ret (results_cell_row rfl _ _ bx 24 _ _ _ rfl h5.1 Tryz.underlying24 rfl (by kernel_rfl)) rfl ?_
            rw [HEE.out]
            refine ⟨⟨h5.2.os.trans F4.out.os, h5.2.tape.trans F4.out.tape, h5.2.output.trans F4.out.output, Nat.le_trans F4.out.size h5.2.size, fun k hk hn => (h5.2.block k (Nat.lt_of_lt_of_le hk F4.out.size) (by have := HBX.out; show k ≠ bx; omega)).trans (F4.out.block k hk hn)⟩, rfl, pv4, ?_⟩
            exact H4.out.farE h5.2 X4.out (Ne.symm hne)
          | ok z =>
            obtain ⟨ps2, r2⟩ := z
            rw [hst] at HWI
            have HST := Lib.hid hst
            clear hst
            go_wp2_with fail
            refine (HWI.out).mono ?_
            rintro e' W4 ⟨rfl, f4, m4⟩
            have hbig : bx < wr.heap.size := (Array.getElem?_eq_some_iff.1 HX.out).1
            have X4 := Lib.hid ((f4.block bx (by have := B3.out.size; omega) (by omega)).trans ((B3.out.block bx hbig).trans HX.out))
            have F4 := Lib.hid (Mine.from (HF.out.below_on B3.out) f4 hwB)
            have q2 : W4.cell? ⟨b, 2, none⟩ = some (.pointer none) := by
              obtain ⟨pv, gs, hR, -⟩ := m4.ex
              exact RdAt.bad hR
            have M4 := Lib.hid m4
            clear m4 f4
            by_cases hlast : (decide (around.length = 0) && y) = true
            · rw [hlast]
              rw [Bool.and_eq_true, decide_eq_true_eq] at hlast
              have ha := List.eq_nil_of_length_eq_zero hlast.1
              have hyt : ([60, 47] : Bs).isPrefixOf r' = true := by rw [HY.out]; exact hlast.2
              subst ha
              have hps := step_last HST.out hyt
              subst hps
              have HEE : Hid (elementL r = .ok (o.elem, r2)) := by show _ = _; rw [HEL.out, run_last HST.out hyt]; rfl
              clear hlast hyt
              obtain ⟨pb2, cv2, g2, kv2, q3, -, c0, ⟨ak, ck, rfl⟩, hel⟩ := root_elem M4.out (opn_small HSO.out.1 (by have := HSW.out; simp only [stackW] at this; omega)) hBX hne
              have HEM := Lib.hid hel
              clear hel
              go_wp2_with fail
              refine (HEM.out).mono ?_
              rintro e' W5 ⟨rfl, f5, hx5, el5, pv5, hr5⟩
              have X5 := Lib.hid (hx5.trans X4.out)
              have F5 : Hid (Mine b w W5) := Mine.from F4.out f5 hwB
              have EL5 := Lib.hid el5
              have HR5 := Lib.hid hr5
              clear f5 hx5 el5 hr5 q3 q2 c0
              go_wp2_with (refine wpList_store_rowN (by rfl) 24 _ _ (by rfl) bx #[.string o.elem.name, .string o.elem.text, .slice ak o.kids.length ck] (by rfl) (by rfl) 24 elemZC (by exact X5.out) (by kernel_rfl) (by rfl) (by kernel_rfl) (fun W => W.heap[bx]? = some (.cells #[.string o.elem.name, .string o.elem.text, .slice ak o.kids.length ck] 24 (0, 0)) ∧ Chg W5 W (fun k => k = bx)) (by exact ⟨setRow_heap _ _ _ _ _ _ X5.out, Chg.setRow_on (Chg.refl _ _) _ rfl⟩) ?_; rintro W6 h6)
              rw [Exit.noGoto_ret]
              refine bodyPost_ret (results_cell_row rfl _ _ bx 24 _ _ _ rfl h6.1 Tryz.underlying24 rfl (by kernel_rfl)) rfl ?_
              rw [HEE.out]
              exact ElOut.finish F5.out X5.out h6.2 HBX.out EL5.out HR5.out hBX hne
            · rw [Bool.eq_false_iff.2 hlast]
              have hs := step_ok HSO.out HST.out
              have hl := step_len HST.out
              have HEE : Hid (elementL r = run ps2 r2) := by
                show _ = _
                rw [HEL.out, run_step HST.out]
                rintro ⟨e1, e2⟩
                apply hlast
                rw [e1, ← HY.out, e2]
                rfl
              have HSS := Lib.hid hs
              have HSV : Hid (stackW ps2 + 6 * r2.length ≤ 48000) := by have := HSW.out; show _ ≤ _; omega
              clear hlast hs
              go_wp2_with fail
              go_roundg (r2.length + 1)
              case measure => omega
              case rel => exact ⟨ps2, r2, Nat.le_refl _, M4.out, HSS.out.2.1, HSS.out.1, HSV.out, HEE.out, F4.out, X4.out⟩
end Go.Proofs.YtgmgghbocidibaaGreatDoor
