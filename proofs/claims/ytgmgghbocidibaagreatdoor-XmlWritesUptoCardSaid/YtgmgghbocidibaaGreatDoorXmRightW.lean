/-
  xml.right: the walk.
-/
import Derived.Test.YtgmgghbocidibaaGreatDoorSm4
import Derived.Test.YtgmgghbocidibaaGreatDoorSm8
namespace Go.Proofs.YtgmgghbocidibaaGreatDoor
open Go.RowKit Go.Lib

theorem getD_bang (l : Bs) {j : Nat} (h : j < l.length) : l.getD j 0 = l[j]! := by
  rw [getElem!_pos l j h]
  simp [List.getD, h]
def RightC (t : Tree) : Prop := ∀ (a : Option Addr) (c ar : Nat) (lf : Int) (gl : Nat) (w : World), TreeIn w t (.string t.name) (.string t.text) (.slice a t.kids.length c) → LeftAt w gl lf → Tabs w → 8 ≤ gl → ar ≤ 20 → 0 ≤ lf → lf ≤ 20000 →
  Calls Tryz.prog 36 #[.agg #[.string t.name, .string t.text, .slice a t.kids.length c], .int .i64 ar, .pointer (some ⟨gl, 0, none⟩)] w (RightOut (rightX t ar lf) gl w)
theorem rightX_no {n t : Bs} {ks : List Tree} {ar : Nat} {lf : Int} (h : lf < 1 ∨ ar = 20 ∨ n = [] ∨ 100 < n.length ∨ firstX (n.headD 0) = false ∨ (0 < ks.length ∧ t ≠ [])) : rightX (.node ⟨n.toArray⟩ ⟨t.toArray⟩ ks) ar lf = (false, lf - 1) := by
  unfold rightX
  exact if_pos h
theorem rightX_no2 {n t : Bs} {ks : List Tree} {ar : Nat} {lf : Int} (h : n.any (fun b => !moreX b) = true ∨ plainX t = false) : rightX (.node ⟨n.toArray⟩ ⟨t.toArray⟩ ks) ar lf = (false, lf - 1) := by
  unfold rightX
  split
  · rfl
  · first | rfl | exact if_pos h
theorem rightX_yes {n t : Bs} {ks : List Tree} {ar : Nat} {lf : Int} (h : ¬ (lf < 1 ∨ ar = 20 ∨ n = [] ∨ 100 < n.length ∨ firstX (n.headD 0) = false ∨ (0 < ks.length ∧ t ≠ []))) (h2 : ¬ (n.any (fun b => !moreX b) = true ∨ plainX t = false)) :
    rightX (.node ⟨n.toArray⟩ ⟨t.toArray⟩ ks) ar lf = rightKsX ks (ar + 1) (lf - 1) := by
  unfold rightX
  rw [if_neg h, if_neg h2]
/-- the element in its box, and the count -/
structure RtAt (w W : World) (gl : Nat) (lf : Int) (es : Array Value) : Prop where
  box : W.heap[w.heap.size]? = some (.cells es 24 (0, 0))
  left : LeftAt W gl lf
  chg : Chg w W (fun b => b = gl)
  far : gl < w.heap.size
theorem RtAt.later {w W W' : World} {gl : Nat} {lf : Int} {es : Array Value} (h : RtAt w W gl lf es) (hb : Below W.heap.size W W') : RtAt w W' gl lf es :=
  ⟨(hb.block _ (Array.getElem?_eq_some_iff.1 h.box).1).trans h.box, (hb.block _ (Array.getElem?_eq_some_iff.1 h.left).1).trans h.left, h.chg.below_on hb, h.far⟩
theorem RtAt.set {w W : World} {gl : Nat} {lf lf' : Int} {es : Array Value} (h : RtAt w W gl lf es) {new : Array Value} (hn : new = #[.int .i64 lf']) : RtAt w (W.setRow gl new) gl lf' es := by
  subst hn
  exact ⟨(setRow_other _ _ _ _ (by have := h.far; omega)).trans h.box, setRow_heap _ _ _ _ _ _ h.left, h.chg.setRow_on _ rfl, h.far⟩
/-- behind a call that counts down -/
theorem RtAt.down {w W W' : World} {gl : Nat} {lf lf' : Int} {es : Array Value} (h : RtAt w W gl lf es) (hl : LeftAt W' gl lf') (hc : Chg W W' (fun b => b = gl)) : RtAt w W' gl lf' es :=
  ⟨(hc.block _ (Array.getElem?_eq_some_iff.1 h.box).1 (by have := h.far; omega)).trans h.box, hl, h.chg.trans hc, h.far⟩
def elemZC : Array Value := #[.string ⟨#[]⟩, .string ⟨#[]⟩, .slice none 0 0]

set_option maxHeartbeats 4000000 in
set_option maxRecDepth 100000 in
theorem right_any : ∀ t, RightC t := by
  apply treeInd
  intro n t ks ih a c ar lf gl w hT hL hTabs hgl har h0 h1
  obtain ⟨n, rfl⟩ : ∃ l : Bs, n = ⟨l.toArray⟩ := ⟨n.data.toList, by cases n; rfl⟩
  obtain ⟨t, rfl⟩ : ∃ l : Bs, t = ⟨l.toArray⟩ := ⟨t.data.toList, by cases t; rfl⟩
  obtain ⟨-, -, hn, ht, hkl, a', c', he, hK⟩ := hT.cells
  simp only [Tree.name, Tree.text, Tree.kids] at hn ht hkl he hK ⊢
  injection he with e1 _ e3
  subst e1 e3
  have HIH := Lib.hid ih
  have HK := Lib.hid hK
  have HTB := Lib.hid hTabs
  have HC : Hid (∀ W : World, (∀ b o v, w.cell? ⟨b, o, none⟩ = some v → (∀ k n, v ≠ .int k n) → W.cell? ⟨b, o, none⟩ = some v) → KidsIn W ks a 0) := fun W hW => KidsIn.kept hW ks a 0 hK
  have hglw : gl < w.heap.size := (Array.getElem?_eq_some_iff.1 hL).1
  obtain ⟨W0, hw0⟩ : ∃ W0, w.alloc (.cells #[.string ⟨n.toArray⟩, .string ⟨t.toArray⟩, .slice a ks.length c] 24) = W0 := ⟨_, rfl⟩
  have B0 : Below w.heap.size w W0 := by rw [← hw0]; exact below_alloc (Below.refl _ _) (Nat.le_refl _) _
  have R0 : Hid (RtAt w W0 gl lf #[.string ⟨n.toArray⟩, .string ⟨t.toArray⟩, .slice a ks.length c]) :=
    ⟨by rw [← hw0]; exact heap_alloc_new _ _, (B0.block _ hglw).trans hL, Chg.of_below B0, hglw⟩
  have HL0 := Lib.hid hL
  have cl := R0.out.left.cell
  clear hT hK hL hTabs ih
  go_enter Tryz.func36, Tryz.ntmps36
  go_upto_region 2 with (refine wpList_store_cellN (by rfl) 3 _ _ (by rfl) gl 0 (.int .i64 (lf - 1)) (by rfl) (by rfl) (by rfl) 3 _ (by exact R0.out.left) (by exact Nat.le_of_ble_eq_true rfl) (by kernel_rfl) (fun W => RtAt w W gl (lf - 1) #[.string ⟨n.toArray⟩, .string ⟨t.toArray⟩, .slice a ks.length c]) (R0.out.set (by rfl)) ?_; clear cl hw0 R0; rintro W1 R1)
  have HR1 := Lib.hid R1
  have cl : W1.cell? ⟨gl, 0, none⟩ = some (.int .i64 (lf - 1)) := R1.left.cell
  have k0 : W1.cell? ⟨w.heap.size, 0, none⟩ = some (.string ⟨n.toArray⟩) := cell_at R1.box rfl
  have k1 : W1.cell? ⟨w.heap.size, 1, none⟩ = some (.string ⟨t.toArray⟩) := cell_at R1.box rfl
  have k2 : W1.cell? ⟨w.heap.size, 2, none⟩ = some (.slice a ks.length c) := cell_at R1.box rfl
  have HOUT : Hid (∀ W, RtAt w W gl (lf - 1) #[.string ⟨n.toArray⟩, .string ⟨t.toArray⟩, .slice a ks.length c] → ∀ r : Bool × Int, r = (false, lf - 1) → RightOut r gl w (.returned (.bool false)) W) := fun W hW r hr => by subst hr; exact ⟨rfl, hW.left, hW.chg⟩
  clear R1
  by_cases g1 : lf < 1
  · have HX := Lib.hid (rightX_no (n := n) (t := t) (ks := ks) (ar := ar) (.inl g1))
    have g1z : lf - 1 < 0 := by omega
    clear HIH HK HC
    go_wp2_with fail
    go_ret
    exact HOUT.out _ HR1.out _ HX.out
  have g1z : ¬ lf - 1 < 0 := by omega
  by_cases g2 : ar = 20
  · have HX := Lib.hid (rightX_no (n := n) (t := t) (ks := ks) (lf := lf) (.inr (.inl g2)))
    subst g2
    clear HIH HK HC
    go_wp2_with fail
    go_ret
    exact HOUT.out _ HR1.out _ HX.out
  have g2z : ¬ (ar : Int) = 20 := by omega
  have g2b : ((ar : Int) == 20) = false := beq_eq_false_iff_ne.2 g2z
  cases n with
  | nil =>
    have HX := Lib.hid (rightX_no (n := []) (t := t) (ks := ks) (ar := ar) (lf := lf) (.inr (.inr (.inl rfl))))
    clear HIH HK HC
    go_wp2_with fail
    go_ret
    exact HOUT.out _ HR1.out _ HX.out
  | cons n0 nt =>
  by_cases g4 : 100 < (n0 :: nt).length
  · have HX := Lib.hid (rightX_no (n := n0 :: nt) (t := t) (ks := ks) (ar := ar) (lf := lf) (.inr (.inr (.inr (.inl g4)))))
    have g4z : (100 : Int) < (nt.length : Int) + 1 := by simp only [List.length_cons] at g4; omega
    clear HIH HK HC
    go_wp2_with fail
    go_ret
    exact HOUT.out _ HR1.out _ HX.out
  have g4z : ¬ (100 : Int) < (nt.length : Int) + 1 := by simp only [List.length_cons] at g4; omega
  have HF := Lib.hid (fun W => xfirst_any n0 W)
  cases g5 : firstX n0 with
  | false =>
    have HX := Lib.hid (rightX_no (n := n0 :: nt) (t := t) (ks := ks) (ar := ar) (lf := lf) (.inr (.inr (.inr (.inr (.inl g5))))))
    rw [g5] at HF
    clear HIH HK HC
    go_wp2_with fail
    refine (HF.out _).mono ?_
    rintro e w2 ⟨rfl, rfl⟩
    go_wp2_with fail
    go_ret
    exact HOUT.out _ HR1.out _ HX.out
  | true =>
  rw [g5] at HF
  by_cases g6 : 0 < ks.length ∧ t ≠ []
  · have HX := Lib.hid (rightX_no (n := n0 :: nt) (t := t) (ks := ks) (ar := ar) (lf := lf) (.inr (.inr (.inr (.inr (.inr g6))))))
    obtain ⟨g7, g8⟩ := g6
    have g7z : (0 : Int) < (ks.length : Int) := by omega
    cases t with
    | nil => exact absurd rfl g8
    | cons t0 tt =>
    clear HIH HK HC
    go_wp2_with fail
    refine (HF.out _).mono ?_
    rintro e w2 ⟨rfl, rfl⟩
    go_wp2_with fail
    go_ret
    exact HOUT.out _ HR1.out _ HX.out
  have hcond : ¬ (lf < 1 ∨ ar = 20 ∨ (n0 :: nt) = [] ∨ 100 < (n0 :: nt).length ∨ firstX ((n0 :: nt).headD 0) = false ∨ (0 < ks.length ∧ t ≠ [])) := by
    rintro (h | h | h | h | h | h)
    · exact g1 h
    · exact g2 h
    · cases h
    · exact g4 h
    · rw [show (n0 :: nt).headD 0 = n0 from rfl, g5] at h; cases h
    · exact g6 h
  have HN := Lib.hid hcond
  have HY : Hid (∀ r : Bool × Int, (n0 :: nt).any (fun b => !moreX b) = false → plainX t = true → rightKsX ks (ar + 1) (lf - 1) = r → rightX (.node ⟨(n0 :: nt).toArray⟩ ⟨t.toArray⟩ ks) ar lf = r) := fun r h1 h2 h3 => by
    rw [rightX_yes hcond (by rintro (h | h); rw [h1] at h; cases h; rw [h2] at h; cases h), h3]
  clear hcond
  simp only [Act.put]
  go_cut [50] (fun s50 wx => s50 = .bool false ∧ wx = W1)
  case first =>
    clear HIH HK HC HN HY HOUT HTB
    by_cases g7 : 0 < ks.length
    · have g7z : (0 : Int) < (ks.length : Int) := by omega
      obtain rfl : t = [] := Classical.byContradiction fun h => g6 ⟨g7, h⟩
      go_wp2_with fail
      refine (HF.out _).mono ?_
      rintro e w2 ⟨rfl, rfl⟩
      go_wp2_with fail
      go_meet
      case rel => exact ⟨rfl, rfl⟩
    · have g7z : ¬ (0 : Int) < (ks.length : Int) := by omega
      go_wp2_with fail
      refine (HF.out _).mono ?_
      rintro e w2 ⟨rfl, rfl⟩
      go_wp2_with fail
      go_meet
      case rel => exact ⟨rfl, rfl⟩
  case rest =>
    obtain ⟨rfl, rfl⟩ := hcut
    clear HF g6
    have hnl : (n0 :: nt).length ≤ 100 := by omega
    go_wp2_with (refine wpList_convert_bytes (by rfl) 9 51 _ (by rfl) 5 Tryz.underlying9 Tryz.underlying51 Tryz.underlying5 (n0 :: nt) (by rfl) ?_; intro cap W2 hb2 hby; have R2 := Lib.hid (HR1.out.later hb2); have HBY := Lib.hid hby; have HB2 := Lib.hid hb2; clear hb2 hby; generalize wc.heap.size = gb at *)
    have HCF := Tryz.slices_ContainsFunc encU8 (fun b => !moreX b) 51 #[] (fun args w => by rfl) gb 0 (n0 :: nt).length cap (n0 :: nt) W2 (xnotmore_at W2) (Nat.le_refl _) (by omega) (fun j hj => by
      rw [HBY.out j hj, getD_bang _ hj]
      rfl)
    rw [List.take_length] at HCF
    have HCF := Lib.hid HCF
    clear HBY
    cases hany : (n0 :: nt).any (fun b => !moreX b) with
    | true =>
      have HX := Lib.hid (rightX_no2 (n := n0 :: nt) (t := t) (ks := ks) (ar := ar) (lf := lf) (.inl hany))
      rw [hany] at HCF
      clear hany HY
      refine HCF.out.mono ?_
      rintro e W3 ⟨rfl, q, rfl⟩
      have R3 := Lib.hid (R2.out.later (below_drewNg W2 q))
      go_wp2_with fail
      go_ret
      exact HOUT.out _ R3.out _ HX.out
    | false =>
      rw [hany] at HCF
      have HY := Lib.hid (fun r => HY.out r hany)
      clear hany
      refine HCF.out.mono ?_
      rintro e W3 ⟨rfl, q, rfl⟩
      have R3 := Lib.hid (R2.out.later (below_drewNg W2 q))
      have k1 : (W2.drewN q).cell? ⟨w.heap.size, 1, none⟩ = some (.string ⟨t.toArray⟩) := cell_at R3.out.box rfl
      have k2 : (W2.drewN q).cell? ⟨w.heap.size, 2, none⟩ = some (.slice a ks.length c) := cell_at R3.out.box rfl
      generalize W2.drewN q = W3 at *
      have HPL := Lib.hid (xplain_any ⟨t.toArray⟩ W3 (by show t.toArray.size ≤ _; unfold maxRead at ht; exact Nat.le_trans ht (by decide)) ((HTB.out.chg R3.out.chg hgl)))
      clear HB2 R2 HCF
      go_wp2_with fail
      refine HPL.out.mono ?_
      rintro e W4 ⟨rfl, hb4⟩
      have R4 := Lib.hid (R3.out.later hb4)
      have k2 : W4.cell? ⟨w.heap.size, 2, none⟩ = some (.slice a ks.length c) := cell_at R4.out.box rfl
      clear hb4 R3 k1 HPL
      cases hpl : plainX t with
      | false =>
        have HX := Lib.hid (rightX_no2 (n := n0 :: nt) (t := t) (ks := ks) (ar := ar) (lf := lf) (.inr hpl))
        go_wp2_with fail
        go_ret
        exact HOUT.out _ R4.out _ HX.out
      | true =>
        have HY := Lib.hid (fun r => HY.out r hpl)
        clear hpl HOUT
        have hbd : 0 ≤ lf - 1 ∧ lf - 1 ≤ 20000 := by omega
        clear g1z g1 g4z g2z g2b
        go_wp2_with fail
        go_loopg [64] ks.length (fun gg s64 wr => ∃ (i : Nat) (lfi : Int), i ≤ ks.length ∧ ks.length - i ≤ gg ∧ s64 = .int .i64 i ∧ 0 ≤ lfi ∧ lfi ≤ 20000 ∧ Hid (RtAt w wr gl lfi #[.string ⟨(n0 :: nt).toArray⟩, .string ⟨t.toArray⟩, .slice a ks.length c]) ∧ Hid (rightKsX ks (ar + 1) (lf - 1) = rightKsX (ks.drop i) (ar + 1) lfi))
        case atStart => exact ⟨0, lf - 1, Nat.zero_le _, by omega, rfl, hbd.1, hbd.2, R4.out, rfl⟩
        case round =>
          obtain ⟨i, lfi, hi, hg, rfl, hf0, hf1, HR, HS⟩ := hrel
          by_cases hlt : i < ks.length
          · have hiz : (i : Int) < (ks.length : Int) := by omega
            obtain ⟨k, hik⟩ : ∃ k, ks[i]? = some k := ⟨_, List.getElem?_eq_getElem hlt⟩
            have HKW := HC.out wr (HL0.out.keep HR.out.chg)
            obtain ⟨b, off, a2, c2, rfl, q0, q1, q2, hkn, hkt, hkk, -, hkT⟩ := HKW.kid hik
            have HKC : Hid (wr.rangeAt b (off + i * 3) [.string k.name, .string k.text, .slice a2 k.kids.length c2]) := fun j u hu => by
              rcases j with _ | _ | _ | j
              · injection hu with hu; subst hu; exact q0
              · injection hu with hu; subst hu; exact q1
              · injection hu with hu; subst hu; exact q2
              · simp at hu
            have HKT := Lib.hid hkT
            have HSK := Lib.hid (rightKsX_at hik (ar + 1) lfi)
            have HBK := Lib.hid (rightX_bd k (ar + 1) lfi hf0)
            have HRK := Lib.hid (HIH.out k (List.mem_of_getElem? hik))
            clear q0 q1 q2 hkT HKW hik
            go_upto_region 9 with (first
              | (refine wpList_load_mid (by rfl) 24 _ (by rfl) b (off + i * 3) (by rfl) [.string k.name, .string k.text, .slice a2 k.kids.length c2] _ HKC.out Tryz.underlying24 rfl (by kernel_rfl) ?_)
              | (refine wpList_store_rowN (by rfl) 24 _ _ (by rfl) wr.heap.size #[.string k.name, .string k.text, .slice a2 k.kids.length c2] (by rfl) (by rfl) 24 elemZC (by exact heap_alloc_new _ _) (by kernel_rfl) (by rfl) (by kernel_rfl) (fun W => W.heap[wr.heap.size]? = some (.cells #[.string k.name, .string k.text, .slice a2 k.kids.length c2] 24 (0, 0)) ∧ Below wr.heap.size wr W) (by rw [setRow_alloc _ _ _ _ _ rfl]; exact ⟨heap_alloc_new _ _, below_alloc (Below.refl _ _) (Nat.le_refl _) _⟩) ?_; rintro W5 h5))
            have HB5 := Lib.hid h5.1
            have HR5 := Lib.hid (HR.out.later h5.2)
            have HT5 := Lib.hid (TreeIn.later h5.2 _ _ _ _ HKT.out)
            have HTB5 := Lib.hid (HTB.out.chg HR5.out.chg hgl)
            generalize wr.heap.size = g8 at *
            clear h5 HKC HKT
            go_wp2_with (refine wpList_load_row (by rfl) 24 _ (by rfl) g8 (by rfl) 24 #[.string k.name, .string k.text, .slice a2 k.kids.length c2] (0, 0) _ (by exact HB5.out) Tryz.underlying24 rfl (by kernel_rfl) ?_)
            refine (HRK.out a2 c2 (ar + 1) lfi gl W5 HT5.out HR5.out.left HTB5.out hgl (by omega) hf0 hf1).mono ?_
            rintro e W6 ⟨rfl, hl6, hc6⟩
            have HR6 := Lib.hid (HR5.out.down hl6 hc6)
            clear hl6 hc6
            cases hrk : (rightX k (ar + 1) lfi).1 with
            | false =>
              have HRES : Hid (rightX (.node ⟨(n0 :: nt).toArray⟩ ⟨t.toArray⟩ ks) ar lf = (false, (rightX k (ar + 1) lfi).2)) := by
                refine HY.out _ ?_
                rw [HS.out, HSK.out, hrk]
                rfl
              clear HY HS HSK
              go_wp2_with fail
              go_ret
              rw [HRES.out]
              exact ⟨rfl, HR6.out.left, HR6.out.chg⟩
            | true =>
              have HS2 : Hid (rightKsX ks (ar + 1) (lf - 1) = rightKsX (ks.drop (i + 1)) (ar + 1) (rightX k (ar + 1) lfi).2) := by
                show _ = _
                rw [HS.out, HSK.out, hrk]
                rfl
              have hb0 := HBK.out.2.2 hrk
              have hb1 := HBK.out.2.1
              generalize (rightX k (ar + 1) lfi).2 = lf2 at *
              clear HS HSK hrk HBK
              go_wp2_with fail
              go_roundg (ks.length - (i + 1))
              case measure => omega
              case rel => exact ⟨i + 1, lf2, by omega, Nat.le_refl _, by go_num, hb0, by omega, HR6.out, HS2.out⟩
          · obtain rfl : i = ks.length := by omega
            have HRES : Hid (rightX (.node ⟨(n0 :: nt).toArray⟩ ⟨t.toArray⟩ ks) ar lf = (true, lfi)) := by
              refine HY.out _ ?_
              rw [HS.out, List.drop_length]
              rfl
            clear HY HS
            go_wp2_with fail
            go_ret
            rw [HRES.out]
            exact ⟨rfl, HR.out.left, HR.out.chg⟩
end Go.Proofs.YtgmgghbocidibaaGreatDoor
