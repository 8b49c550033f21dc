/-
  xml's reader: begin.
-/
import Derived.Test.YtgmgghbocidibaaGreatDoorXmPile
import Derived.Test.YtgmgghbocidibaaGreatDoorXmLaw4
namespace Go.Proofs.YtgmgghbocidibaaGreatDoor
open Go.RowKit Go.Lib Go.PlainAid

theorem info_ptr : ∃ i, Tryz.prog.info? 93 = some i ∧ i.zero = some (.pointer none) ∧ i.size = 1 ∧ i.bytes = 8 :=
  info_parts (show (Tryz.prog.info? 93).map (fun i => (i.zero, i.size, i.bytes)) = some (some (.pointer none), 1, 8) by kernel_rfl)
theorem BdAt.new {w : World} {g : Nat} {nm : ByteArray} (h : w.heap[g]? = some (.cells (oC nm (.slice none 0 0) (.pointer none) (.slice none 0 0) false) 103 (0, 0))) : BdAt w g nm (.slice none 0 0) false [] (.slice none 0 0) :=
  ⟨⟨none, h, .inl rfl⟩, World.ownsRow_nil _ _ _ _⟩
/-- one more is open -/
theorem Pile.push {w w1 : World} {b B g p cap : Nat} {pv v : Value} {ps : List Opn} {gs : List Nat} {n : Bs} {S : ByteArray} {r : Bs}
    (hr : RdAt w b S r pv) (hpa : PileAt w ps gs g) (hbd : BdAt w g (Bs.str n) (.slice none 0 0) false [] (.slice none 0 0)) (hpv : ∀ k, pv.ownBlock = some k → ¬ IsP w k) (hfar : ∀ x ∈ gs, B ≤ x) (hbg : B ≤ g) (hlow : b < B)
    (hrow : w1.ownsRow B 93 1 (.slice (some ⟨p, 0, none⟩) (ps.length + 1) cap) (ps.length + 1) (gs.reverse.map ptr ++ [ptr g])) (hgr : w.grownBy w1 pv.ownBlock) (hvb : pv.ownBlock ≠ some b) :
    Pile (w1.setCell ⟨b, 3, none⟩ v) b B (.slice (some ⟨p, 0, none⟩) (ps.length + 1) cap) (opn n :: ps) (g :: gs) := by
  have hb : ∀ k, IsP w k → (w1.setCell ⟨b, 3, none⟩ v).heap[k]? = w.heap[k]? := fun k hk => by
    have hne : k ≠ b := fun e => hr.not_isP (e ▸ hk)
    have hlt : k < w.heap.size := by
      obtain ⟨cs, t, e, _⟩ := hk
      exact (Array.getElem?_eq_some_iff.1 e).1
    rw [Below.heap_setCell _ _ _ _ hne]
    exact hgr.block k hlt (fun e => hpv k e.symm hk)
  have hsz : w.heap.size ≤ (w1.setCell ⟨b, 3, none⟩ v).heap.size := by have := hgr.size; simpa [World.setCell] using this
  have hpb := (hrow.lt p rfl).1
  have hgl := hbd.lt
  refine ⟨?_, ⟨⟨.slice none 0 0, .slice none 0 0, ⟨?_, KidE.nil _ _ _, by omega, fun k hk => (by cases hk), fun _ => rfl⟩⟩, hpa.kept (Nat.le_refl _) fun k _ h2 => hb k h2⟩, fun x hx => ?_, hlow, by omega⟩
  · rw [List.reverse_cons, List.map_append]
    exact own_keep hrow fun k hk => Below.heap_setCell _ _ _ _ (by injection hk with hk; simp only at hk; show k ≠ b; omega)
  · obtain ⟨ad, h1, h2⟩ := hbd.box
    exact ⟨⟨ad, (hb g ⟨_, _, h1, .inl rfl⟩).trans h1, h2⟩, World.ownsRow_nil _ _ _ _⟩
  · rcases List.mem_cons.1 hx with rfl | hx
    · exact hbg
    · exact hfar x hx
/-- how begin ends -/
def BeginOut (b B : Nat) (S : ByteArray) (ps : List Opn) (st : R (Bs × Bool × Bs)) (w : World) (e : Ending) (w' : World) : Prop :=
  From b B w w' ∧ match st with
    | .ok (n, m, r) => e = .returned (.bool m) ∧ Mach w' b B S r (opn n :: ps)
    | .error (c, k) => e = .returned (.bool false) ∧ MachBad w' b S c k
theorem rwant_lit (b : Nat) {S : ByteArray} (W : World) {r : Bs} {pv : Value} (h : RdAt W b S r pv) (p : Bs) (hp : p.length ≤ 1000000) :
    Calls Tryz.prog 27 #[.pointer (some ⟨b, 0, none⟩), .string ⟨p.toArray⟩] W (RdOut b S pv (wantL p r) W) := rwant_any h p hp
theorem RdBad.bad {w : World} {b : Nat} {S : ByteArray} {c : Int} {k : Nat} {pv : Value} (h : RdBad w b S c k pv) : ∃ g, w.cell? ⟨b, 2, none⟩ = some (.pointer (some ⟨g, 0, none⟩)) := by
  obtain ⟨a, g, -, -, -, hh, -, -⟩ := h
  exact ⟨g, cell_at hh rfl⟩
theorem RdAt.cells {w : World} {b : Nat} {S : ByteArray} {r : Bs} {pv : Value} (h : RdAt w b S r pv) : ∃ a : Nat, a ≤ S.size ∧ S.size ≤ 8000 ∧ S.data.toList.drop a = r ∧ w.cell? ⟨b, 0, none⟩ = some (.string S) ∧ w.cell? ⟨b, 1, none⟩ = some (.int .i64 (a : Int)) ∧ w.cell? ⟨b, 2, none⟩ = some (.pointer none) ∧ w.cell? ⟨b, 3, none⟩ = some pv ∧ w.heap[b]? = some (.cells (rdC S a (.pointer none) pv) 60 (0, 0)) := by
  obtain ⟨a, h1, h2, h3, h4⟩ := h
  exact ⟨a, h1, h2, h3, cell_at h4 rfl, cell_at h4 rfl, cell_at h4 rfl, cell_at h4 rfl, h4⟩
theorem RdAt.bad {w : World} {b : Nat} {S : ByteArray} {r : Bs} {pv : Value} (h : RdAt w b S r pv) : w.cell? ⟨b, 2, none⟩ = some (.pointer none) := by
  obtain ⟨a, -, -, -, -, -, h, -, -⟩ := h.cells
  exact h

theorem Pile.below {w w' : World} {b B : Nat} {pv : Value} {ps : List Opn} {gs : List Nat} (h : Pile w b B pv ps gs) (hb : Below w.heap.size w w') : Pile w' b B pv ps gs :=
  h.kept hb.size (fun k hk => hb.block k (h.row.lt k hk).2) (fun k hk => by
    obtain ⟨cs, t, e, _⟩ := hk
    exact hb.block k (Array.getElem?_eq_some_iff.1 e).1)
theorem From.below {b B : Nat} {w w' : World} (h : Below w.heap.size w w') : From b B w w' := Chg.of_below h
theorem decide_and {n : Nat} {y : Bool} : ((decide (n = 20) && y) = true) ↔ n = 20 ∧ y = true := by simp
theorem lessL_hal (c : UInt8) : decide (0 ≤ Lib.indexByte [] c) = (false && decide (c = 58)) := by
  rfl
theorem RdBad.far {w w' : World} {b g : Nat} {S : ByteArray} {c : Int} {k : Nat} {pv : Value} {cs : Array Value} (h : RdBad w b S c k pv) (hc : Chg w w' (fun k => k = g)) (hg : w.heap[g]? = some (.cells cs 103 (0, 0))) (hgb : b ≠ g) : RdBad w' b S c k pv := by
  obtain ⟨a, q, h1, h2, h3, h4, h5, h6⟩ := h
  refine ⟨a, q, h1, h2, h3, (hc.block b (Array.getElem?_eq_some_iff.1 h4).1 hgb).trans h4, (hc.block q (Array.getElem?_eq_some_iff.1 h5).1 (fun e => ?_)).trans h5, h6⟩
  subst e
  rw [hg] at h5
  injection h5 with h5
  injection h5 with _ e _
  exact absurd e (by decide)
theorem PileAt.mine {w w' : World} {b hi : Nat} {S : ByteArray} {r : Bs} {pv : Value} {ps : List Opn} {gs : List Nat} (h : PileAt w ps gs hi) (hr : RdAt w b S r pv) (hc : Mine b w w') : PileAt w' ps gs hi :=
  h.kept (Nat.le_refl _) fun k _ h2 => by
    have h3 := h2
    obtain ⟨cs, t, e, _⟩ := h2
    exact hc.block k (Array.getElem?_eq_some_iff.1 e).1 (fun e2 => by subst e2; exact hr.not_isP h3)
theorem own_mine {w w' : World} {b B sz n : Nat} {e : TypeId} {v : Value} {xs : List Value} (h : w.ownsRow B e sz v n xs) (hlow : b < B) (hc : Mine b w w') : w'.ownsRow B e sz v n xs :=
  own_keep h fun k hk => hc.block k (h.lt k hk).2 (by have := (h.lt k hk).1; show k ≠ b; omega)
theorem heap_mine {w w' : World} {b g : Nat} {x : Obj} (h : w.heap[g]? = some x) (hc : Mine b w w') (hg : g ≠ b) : w'.heap[g]? = some x := (hc.block g (Array.getElem?_eq_some_iff.1 h).1 hg).trans h
theorem RdAt.step {w : World} {b a : Nat} {S : ByteArray} {c : UInt8} {r : Bs} {pv : Value} (hs : S.size ≤ 8000) (hd : S.data.toList.drop a = c :: r) (hh : w.heap[b]? = some (.cells (rdC S a (.pointer none) pv) 60 (0, 0))) : RdAt (w.setCell ⟨b, 1, none⟩ (.int .i64 ((a : Int) + 1))) b S r pv := by
  obtain ⟨h1, _, h3⟩ := xt_cons hd
  exact ⟨a + 1, by omega, hs, h3, at_set hh (a + 1)⟩
theorem map_snoc (gs : List Nat) (g : Nat) : (g :: gs).reverse.map ptr = gs.reverse.map ptr ++ [ptr g] := by simp
set_option maxHeartbeats 8000000 in
set_option maxRecDepth 100000 in
theorem rbegin_any {w : World} {b B : Nat} {S : ByteArray} {r : Bs} {ps : List Opn} (h : Mach w b B S r ps) (hps : ps.length ≤ 20) :
    Calls Tryz.prog 40 #[.pointer (some ⟨b, 0, none⟩)] w (BeginOut b B S ps (beginL ps.length r) w) := by
  obtain ⟨pv, gs, hR, hP⟩ := h.ex
  clear h
  obtain ⟨i0, hi0, hz0, hz1, hz2⟩ := info_ptr
  obtain ⟨av, cv, rfl⟩ : ∃ a c, pv = .slice a ps.length c := own_form' hP.row
  obtain ⟨a, ha, hs, hd, q0, q1, q2, q3, hh⟩ := hR.cells
  have HH := Lib.hid hh
  have HD := Lib.hid hd
  have HR := Lib.hid hR
  have HP := Lib.hid hP
  have HA := Lib.hid (fun W (h : RdAt W b S r (.slice av ps.length cv)) => rahead_any h [60])
  obtain ⟨y, hy⟩ : ∃ y, ([60] : Bs).isPrefixOf r = y := ⟨_, rfl⟩
  rw [hy] at HA
  have HY : Hid (y = true ↔ r.head? = some 60) := by show _ ↔ _; rw [← hy]; exact pre_one
  clear hh hd hR hP hy q0 q2
  go_enter Tryz.func40, Tryz.ntmps40
  go_upto_region 1 with (fail)
  go_cut [13] (fun s13 wx => s13 = .bool (decide (ps.length = 20) && y) ∧ Hid (Below w.heap.size w wx))
  case first =>
    by_cases h20 : ps.length = 20
    · have hz20 : (ps.length : Int) = 20 := by omega
      go_wp2_with fail
      refine (HA.out _ HR.out).mono ?_
      rintro e W1 ⟨rfl, hb1⟩
      have HB1 := Lib.hid hb1
      clear hb1
      go_wp2_with fail
      go_meet
      case rel => exact ⟨by rw [h20]; rfl, HB1.out⟩
    · have hz20 : ¬ (ps.length : Int) = 20 := by omega
      go_wp2_with fail
      go_meet
      case rel => exact ⟨by rw [decide_eq_false h20]; rfl, Below.refl _ _⟩
  case rest =>
    obtain ⟨rfl, HB⟩ := hcut
    have HRc := Lib.hid (HR.out.later HB.out)
    have HPc := Lib.hid (HP.out.below HB.out)
    have hpwo := HP.out
    clear HA HH q1 q3
    by_cases hdeep : (decide (ps.length = 20) && y) = true
    · have HE : Hid (beginL ps.length r = .error (57, r.length)) := beg_deep ⟨(decide_and.1 hdeep).1, HY.out.1 (decide_and.1 hdeep).2⟩
      rw [hdeep]
      obtain ⟨a', ha', hs', hd', k0, k1, k2, k3, hh'⟩ := HRc.out.cells
      have HF := Lib.hid (rfail_at ha' hs' hd' b (.slice av ps.length cv) 57 wc hh')
      clear hh' hd' hdeep hpwo
      go_wp2_with fail
      refine (HF.out).mono ?_
      rintro e W1 ⟨rfl, h1, m1⟩
      have H1 := Lib.hid h1
      have M1 := Lib.hid m1
      clear h1 m1 k0 k1 k2 k3
      go_wp2_with fail
      go_ret
      rw [HE.out]
      exact ⟨(From.below HB.out).trans (From.mine M1.out), rfl, _, H1.out⟩
    · have HE : Hid (beginL ps.length r = begR r) := beg_flat fun e => hdeep (decide_and.2 ⟨e.1, HY.out.2 e.2⟩)
      rw [Bool.eq_false_iff.2 hdeep]
      have HW := Lib.hid (rwant_any HRc.out [60] (by decide))
      clear hdeep hpwo
      cases hw : wantL [60] r with
      | error e =>
        rw [hw] at HW
        have HE2 : Hid (begR r = .error e) := by show _ = _; unfold begR; rw [hw]; rfl
        clear hw
        go_wp2_with fail
        refine (HW.out).mono ?_
        rintro e' W1 ⟨rfl, h1, m1⟩
        obtain ⟨g, k2⟩ := RdBad.bad h1
        have H1 := Lib.hid h1
        have M1 := Lib.hid m1
        clear h1 m1
        go_wp2_with fail
        go_ret
        rw [HE.out, HE2.out]
        exact ⟨(From.below HB.out).trans (From.mine M1.out), rfl, _, H1.out⟩
      | ok r1 =>
        rw [hw] at HW
        have HWK := Lib.hid hw
        clear hw
        go_wp2_with fail
        refine (HW.out).mono ?_
        rintro e' W1 ⟨rfl, h1, m1⟩
        have H1 : Hid (RdAt W1 b S r1 (.slice av ps.length cv)) := h1
        have P1 := Lib.hid (HPc.out.mine HRc.out m1)
        have F1 := Lib.hid ((From.below (b := b) (B := B) HB.out).trans (From.mine m1))
        have k2 := RdAt.bad H1.out
        have hb1 := H1.out.lt
        clear h1 m1 HW HRc HPc HB
        go_upto_region 8 with (fail)
        obtain ⟨g, hg⟩ : ∃ g, W1.heap.size = g := ⟨_, rfl⟩
        obtain ⟨W2, hW2⟩ : ∃ W2, W1.alloc (.cells (oC ⟨#[]⟩ (.slice none 0 0) (.pointer none) (.slice none 0 0) false) 103) = W2 := ⟨_, rfl⟩
        have hb2 : Below W1.heap.size W1 W2 := by rw [← hW2]; exact below_alloc (Below.refl _ _) (Nat.le_refl _) _
        have X2 : W2.heap[g]? = some (.cells (oC ⟨#[]⟩ (.slice none 0 0) (.pointer none) (.slice none 0 0) false) 103 (0, 0)) := by rw [← hW2, ← hg]; exact heap_alloc_new _ _
        have H2 := Lib.hid (H1.out.later hb2)
        have F2 := Lib.hid (F1.out.trans (From.below hb2))
        have P2 : Hid (PileAt W2 ps gs g) := by rw [← hg]; exact P1.out.at_.kept (Nat.le_refl _) fun k h3 _ => hb2.block k h3
        have R2 : Hid (W2.ownsRow B 93 1 (.slice av ps.length cv) ps.length (gs.reverse.map ptr)) := own_later' P1.out.row hb2
        have FAR := Lib.hid P1.out.far
        have HBG : Hid (B ≤ g) := by show B ≤ g; rw [← hg]; exact P1.out.hi
        have hlow := P1.out.low
        unfold oC at hW2
        rw [hW2, hg]
        have HN := Lib.hid (rname_any H2.out false [] lessL_hal)
        have X2 := Lib.hid X2
        clear hW2 hb2 H1 P1 F1 hg hb1
        cases hn : nameL false r1 with
        | error e =>
          rw [hn] at HN
          have HE2 : Hid (begR r = .error e) := by show _ = _; unfold begR; rw [ok_bind HWK.out, hn]; rfl
          clear hn
          go_wp2_with fail
          refine (HN.out).mono ?_
          rintro e' W3 ⟨m3, rfl, h3⟩
          have hg3 := (m3.block g (Array.getElem?_eq_some_iff.1 X2.out).1 (by have := HBG.out; omega)).trans X2.out
          have hne : g ≠ b := by have := HBG.out; omega
          have H3 := Lib.hid h3
          have M3 := Lib.hid m3
          have X3 := Lib.hid hg3
          clear h3 m3 hg3
          go_upto_region 9 with (refine wpList_store_cellN (by rfl) 9 _ _ (by rfl) g 0 (.string ⟨#[]⟩) (by rfl) (by rfl) (by rfl) 103 (oC ⟨#[]⟩ (.slice none 0 0) (.pointer none) (.slice none 0 0) false) (by exact X3.out) (by exact Nat.le_of_ble_eq_true rfl) (by kernel_rfl) (fun W => Chg W3 W (fun k => k = g)) (by exact Chg.setRow_on (Chg.refl _ _) _ rfl) ?_; rintro W4 h4)
          have h4' : RdBad W4 b S e.1 e.2 (.slice av ps.length cv) := H3.out.far h4 X3.out (Ne.symm hne)
          have F4 := Lib.hid ((F2.out.trans (From.mine M3.out)).trans (Chg.mono h4 fun k _ e => by have := HBG.out; omega))
          obtain ⟨q, k2'⟩ := RdBad.bad h4'
          have H4 := Lib.hid h4'
          clear h4 h4' k2
          go_wp2_with fail
          go_ret
          rw [HE.out, HE2.out]
          exact ⟨F4.out, rfl, _, H4.out⟩
        | ok y =>
          obtain ⟨n, r2⟩ := y
          rw [hn] at HN
          have HNM := Lib.hid hn
          clear hn
          go_wp2_with fail
          refine (HN.out).mono ?_
          rintro e' W3 ⟨m3, rfl, h3⟩
          have hne : g ≠ b := by have := HBG.out; omega
          have h3' : RdAt W3 b S r2 (.slice av ps.length cv) := h3
          have X3 := Lib.hid (heap_mine X2.out m3 hne)
          have P3 := Lib.hid (P2.out.mine H2.out m3)
          have R3 := Lib.hid (own_mine R2.out hlow m3)
          have F3 := Lib.hid (F2.out.trans (From.mine m3))
          have H3 := Lib.hid h3'
          clear h3 h3' m3 P2 R2 F2 H2 X2 HN k2
          go_upto_region 9 with (refine wpList_store_cellN (by rfl) 9 _ _ (by rfl) g 0 (.string ⟨n.toArray⟩) (by rfl) (by rfl) (by rfl) 103 (oC ⟨#[]⟩ (.slice none 0 0) (.pointer none) (.slice none 0 0) false) (by exact X3.out) (by exact Nat.le_of_ble_eq_true rfl) (by kernel_rfl) (fun W => Chg W3 W (fun k => k = g) ∧ W.heap[g]? = some (.cells (oC ⟨n.toArray⟩ (.slice none 0 0) (.pointer none) (.slice none 0 0) false) 103 (0, 0))) (by exact ⟨Chg.setRow_on (Chg.refl _ _) _ rfl, setRow_heap _ _ _ _ _ _ X3.out⟩) ?_; rintro W4 h4)
          have hpg : ∀ k, (Value.slice av ps.length cv).ownBlock = some k → k ≠ g := fun k hk e => by
            subst e
            rcases R3.out.2 with ⟨e, _⟩ | ⟨q, cap, cur, e, _, hq, _⟩
            · rw [e] at hk; cases hk
            · rw [e] at hk
              injection hk with hk
              simp only at hk
              subst hk
              rw [X3.out] at hq
              injection hq with hq
              injection hq with _ e _
              exact absurd e (by decide)
          have H4 := Lib.hid (H3.out.chg h4.1 (Ne.symm hne))
          have X4 := Lib.hid h4.2
          have P4 : Hid (PileAt W4 ps gs g) := P3.out.kept (Nat.le_refl _) fun k hk h2 => by
            obtain ⟨cs, t, e, _⟩ := h2
            exact h4.1.block k (Array.getElem?_eq_some_iff.1 e).1 (by omega)
          have R4 := Lib.hid (own_keep R3.out fun k hk => h4.1.block k (R3.out.lt k hk).2 (hpg k hk))
          have F4 := Lib.hid (F3.out.trans (Chg.mono h4.1 fun k _ e => by have := HBG.out; omega))
          have k2 := RdAt.bad H4.out
          have HAT := Lib.hid (rattrs_any H4.out (r2.length + 1) (Nat.lt_succ_self _))
          clear h4 P3 R3 F3 H3 X3 hpg
          cases hat : attrsL (r2.length + 1) r2 with
          | error e =>
            rw [hat] at HAT
            have HE2 : Hid (begR r = .error e) := by show _ = _; unfold begR; rw [ok_bind HWK.out, ok_bind HNM.out]; dsimp only; rw [hat]; rfl
            clear hat
            go_wp2_with fail
            refine (HAT.out).mono ?_
            rintro e' W5 ⟨rfl, h5, m5⟩
            obtain ⟨q, k2'⟩ := RdBad.bad h5
            have H5 := Lib.hid h5
            have F5 := Lib.hid (F4.out.trans (From.mine m5))
            clear h5 m5 k2
            go_wp2_with fail
            go_ret
            rw [HE.out, HE2.out]
            exact ⟨F5.out, rfl, _, H5.out⟩
          | ok r3 =>
            rw [hat] at HAT
            have HAK := Lib.hid hat
            have HHD := Lib.hid (attrs_head (Nat.lt_succ_self _) hat)
            clear hat
            go_wp2_with fail
            refine (HAT.out).mono ?_
            rintro e' W5 ⟨rfl, h5, m5⟩
            have h5' : RdAt W5 b S r3 (.slice av ps.length cv) := h5
            have X5 := Lib.hid (heap_mine X4.out m5 hne)
            have P5 := Lib.hid (P4.out.mine H4.out m5)
            have R5 := Lib.hid (own_mine R4.out hlow m5)
            have F5 := Lib.hid (F4.out.trans (From.mine m5))
            have H5 := Lib.hid h5'
            obtain ⟨a5, ha5, -, hd5, -, k1, k2', k3, hh5⟩ := h5'.cells
            have HH5 := Lib.hid hh5
            have HD5 := Lib.hid hd5
            clear h5 h5' m5 P4 R4 F4 H4 X4 HAT k2 hh5 hd5
            go_upto_region 15 with (at_builtin; refine wpList_append_lies _ (by rfl) _ _ 58 (by rfl) B 93 i0 _ 1 8 Tryz.underlying58 hi0 hz0 hz1 hz2 rfl (by decide) _ ps.length (gs.reverse.map ptr) (by rfl) (own_later' R5.out (below_alloc (Below.refl _ _) (Nat.le_refl _) _)) ⟨W5.heap.size, 0, none⟩ 1 1 [ptr g] (by rfl) (by rfl) ?c1 ?c2 (by decide) ?c3 ?c4 ?c5 _ rfl ?_)
            case c1 => exact fun j u hj => cells_new _ _ _ _ _ hj
            case c2 => simp [ptr, Value.oneCell']
            case c3 => simp only [maxLen]; omega
            case c4 => omega
            case c5 => have := (Array.getElem?_eq_some_iff.1 X5.out).1; have := HBG.out; simp; omega
            intro p cap W6 hown hgr hat6 hlt6
            rw [← List.map_reverse] at hown
            have hbl := H5.out.lt
            have hvb : (Value.slice av ps.length cv).ownBlock ≠ some b := fun e => by have := (R5.out.lt b e).1; omega
            have hb5 : Below W5.heap.size W5 (W5.alloc (.cells #[ptr g] 93)) := below_alloc (Below.refl _ _) (Nat.le_refl _) _
            have h6 : W6.heap[b]? = some (.cells (rdC S a5 (.pointer none) (.slice av ps.length cv)) 60 (0, 0)) := (hgr.block b (by simp; omega) (fun e => hvb e.symm)).trans ((hb5.block b hbl).trans HH5.out)
            have f6 : W6.frozen? ⟨b, 3, none⟩ = false := free_of_heap h6
            have c6 : W6.cell? ⟨b, 3, none⟩ = some (.slice av ps.length cv) := cell_at h6 rfl
            have hpile : Pile (W6.setCell ⟨b, 3, none⟩ (.slice (some ⟨p, 0, none⟩) (ps.length + 1) cap)) b B (.slice (some ⟨p, 0, none⟩) (ps.length + 1) cap) (opn n :: ps) (g :: gs) := by
              refine Pile.push (H5.out.later hb5) ((P5.out).kept (Nat.le_refl _) fun k hk h2 => ?_) (BdAt.new ((hb5.block g (Array.getElem?_eq_some_iff.1 X5.out).1).trans X5.out)) (fun k hk h2 => ?_) FAR.out HBG.out hlow hown hgr hvb
              · obtain ⟨cs, t, e, _⟩ := h2
                exact hb5.block k (Array.getElem?_eq_some_iff.1 e).1
              · have hr := own_later' R5.out hb5
                rcases hr.2 with ⟨e, _⟩ | ⟨q, cap', cur, e, _, hq, _⟩
                · rw [e] at hk; cases hk
                · rw [e] at hk
                  injection hk with hk
                  simp only at hk
                  subst hk
                  exact Go.Proofs.YtgmgghbocidibaaGreatDoor.not_isP hq (by decide) (by decide) (by decide) h2
            have h7 : (W6.setCell ⟨b, 3, none⟩ (.slice (some ⟨p, 0, none⟩) (ps.length + 1) cap)).heap[b]? = some (.cells (rdC S a5 (.pointer none) (.slice (some ⟨p, 0, none⟩) (ps.length + 1) cap)) 60 (0, 0)) := by rw [heap_set h6]; rfl
            have hF7 : From b B W5 (W6.setCell ⟨b, 3, none⟩ (.slice (some ⟨p, 0, none⟩) (ps.length + 1) cap)) := by
              refine ((From.below hb5).trans ((Chg.grown hgr).mono fun k _ e => ?_)).trans ((Chg.set _ _ _).mono fun k _ e => by show k = b ∨ B ≤ k; have e' : k = b := e; omega)
              have := (R5.out.lt k e.symm).1
              omega
            obtain ⟨W7, hW7⟩ : ∃ W7, W6.setCell ⟨b, 3, none⟩ (.slice (some ⟨p, 0, none⟩) (ps.length + 1) cap) = W7 := ⟨_, rfl⟩
            rw [hW7] at hpile h7 hF7
            have HP7 := Lib.hid hpile
            have HX7 := Lib.hid h7
            have F7 := Lib.hid (F5.out.trans hF7)
            have H7 : Hid (RdAt W7 b S r3 (.slice (some ⟨p, 0, none⟩) (ps.length + 1) cap)) := ⟨a5, ha5, hs, HD5.out, h7⟩
            clear hown hgr hat6 hlt6 hb5 hpile h7 hF7 k1 k2' k3 hvb R5 P5 F5 X5 HH5
            go_upto_region 15 with (fail)
            (try rw [hW7])
            clear hW7 f6 c6 h6
            have HA := Lib.hid (rahead_any H7.out [47])
            have k1 : W7.cell? ⟨b, 1, none⟩ = some (.int .i64 (a5 : Int)) := cell_at HX7.out rfl
            have f1 : W7.frozen? ⟨b, 1, none⟩ = false := free_of_heap HX7.out
            by_cases h47 : r3.head? = some 47
            · obtain ⟨r4, rfl⟩ : ∃ r4, r3 = 47 :: r4 := by cases r3 with | nil => cases h47 | cons c r4 => injection h47 with h; subst h; exact ⟨r4, rfl⟩
              have HE2 : Hid (begR r = (wantL [62] r4 >>= fun r5 => .ok (n, false, r5))) := by show _ = _; unfold begR; rw [ok_bind HWK.out, ok_bind HNM.out]; dsimp only; rw [ok_bind HAK.out]; rfl
              rw [show ([47] : Bs).isPrefixOf (47 :: r4) = true from rfl] at HA
              clear h47
              go_wp2_with fail
              refine (HA.out).mono ?_
              rintro e' W8 ⟨rfl, hb8⟩
              have HP8 := Lib.hid (HP7.out.below hb8)
              have hx8 := (hb8.block b H7.out.lt).trans HX7.out
              have F8 := Lib.hid (F7.out.trans (From.below hb8))
              have H8 : Hid (RdAt W8 b S (47 :: r4) (.slice (some ⟨p, 0, none⟩) (ps.length + 1) cap)) := ⟨a5, ha5, hs, HD5.out, hx8⟩
              have HX8 := Lib.hid hx8
              clear k1 f1
              have k1 : W8.cell? ⟨b, 1, none⟩ = some (.int .i64 (a5 : Int)) := cell_at hx8 rfl
              have f1 : W8.frozen? ⟨b, 1, none⟩ = false := free_of_heap hx8
              have h9 := RdAt.step hs HD5.out hx8
              obtain ⟨W9, hW9⟩ : ∃ W9, W8.setCell ⟨b, 1, none⟩ (.int .i64 ((a5 : Int) + 1)) = W9 := ⟨_, rfl⟩
              have m9 : Mine b W8 W9 := by rw [← hW9]; exact mine_set _ _ _ _
              rw [hW9] at h9
              have H9 := Lib.hid h9
              have HP9 := Lib.hid (HP8.out.mine H8.out m9)
              have F9 := Lib.hid (F8.out.trans (From.mine m9))
              have HW9 := Lib.hid (rwant_any h9 [62] (by decide))
              clear hx8 h9 m9 hb8 HP7 HX7 F7 H7 HA HP8 F8 H8
              go_upto_region 17 with (fail)
              (try rw [hW9])
              clear hW9 k1 f1
              cases hw2 : wantL [62] r4 with
              | error e =>
                rw [hw2] at HW9
                have HE3 : Hid (begR r = .error e) := by show _ = _; rw [HE2.out, hw2]; rfl
                clear hw2
                go_wp2_with fail
                refine (HW9.out).mono ?_
                rintro e' W10 ⟨rfl, h10, m10⟩
                have H10 := Lib.hid h10
                have F10 := Lib.hid (F9.out.trans (From.mine m10))
                clear h10 m10
                go_wp2_with fail
                go_ret
                rw [HE.out, HE3.out]
                exact ⟨F10.out, rfl, _, H10.out⟩
              | ok r5 =>
                rw [hw2] at HW9
                have HE3 : Hid (begR r = .ok (n, false, r5)) := by show _ = _; rw [HE2.out, hw2]; rfl
                clear hw2
                go_wp2_with fail
                refine (HW9.out).mono ?_
                rintro e' W10 ⟨rfl, h10, m10⟩
                have H10 : Hid (RdAt W10 b S r5 (.slice (some ⟨p, 0, none⟩) (ps.length + 1) cap)) := h10
                have HP10 := Lib.hid (HP9.out.mine H9.out m10)
                have F10 := Lib.hid (F9.out.trans (From.mine m10))
                clear h10 m10
                go_wp2_with fail
                go_ret
                rw [HE.out, HE3.out]
                exact ⟨F10.out, rfl, ⟨_, _, H10.out, HP10.out⟩⟩
            · obtain ⟨c3, r4, rfl⟩ : ∃ c r4, r3 = c :: r4 := by cases r3 with | nil => exact absurd HHD.out (by simp) | cons c r4 => exact ⟨c, r4, rfl⟩
              have HE2 : Hid (begR r = .ok (n, true, r4)) := by show _ = _; unfold begR; rw [ok_bind HWK.out, ok_bind HNM.out]; dsimp only; rw [ok_bind HAK.out, if_neg h47]; rfl
              rw [show ([47] : Bs).isPrefixOf (c3 :: r4) = false from by
                cases hx : ([47] : Bs).isPrefixOf (c3 :: r4) with
                | false => rfl
                | true => exact absurd (pre_one.1 hx) h47] at HA
              clear h47
              go_wp2_with fail
              refine (HA.out).mono ?_
              rintro e' W8 ⟨rfl, hb8⟩
              have HP8 := Lib.hid (HP7.out.below hb8)
              have hx8 := (hb8.block b H7.out.lt).trans HX7.out
              have F8 := Lib.hid (F7.out.trans (From.below hb8))
              have H8 : Hid (RdAt W8 b S (c3 :: r4) (.slice (some ⟨p, 0, none⟩) (ps.length + 1) cap)) := ⟨a5, ha5, hs, HD5.out, hx8⟩
              clear k1 f1
              have k1 : W8.cell? ⟨b, 1, none⟩ = some (.int .i64 (a5 : Int)) := cell_at hx8 rfl
              have f1 : W8.frozen? ⟨b, 1, none⟩ = false := free_of_heap hx8
              have h9 := RdAt.step hs HD5.out hx8
              obtain ⟨W9, hW9⟩ : ∃ W9, W8.setCell ⟨b, 1, none⟩ (.int .i64 ((a5 : Int) + 1)) = W9 := ⟨_, rfl⟩
              have m9 : Mine b W8 W9 := by rw [← hW9]; exact mine_set _ _ _ _
              rw [hW9] at h9
              have H9 := Lib.hid h9
              have HP9 := Lib.hid (HP8.out.mine H8.out m9)
              have F9 := Lib.hid (F8.out.trans (From.mine m9))
              clear hx8 h9 m9 hb8 HP7 HX7 F7 H7 HA HP8 F8 H8
              go_upto_region 20 with (fail)
              (try rw [hW9])
              clear hW9 k1 f1
              go_wp2_with fail
              go_ret
              rw [HE.out, HE2.out]
              exact ⟨F9.out, rfl, ⟨_, _, H9.out, HP9.out⟩⟩
end Go.Proofs.YtgmgghbocidibaaGreatDoor
