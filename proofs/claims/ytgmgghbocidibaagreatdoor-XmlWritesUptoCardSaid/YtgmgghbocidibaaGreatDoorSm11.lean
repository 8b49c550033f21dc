/-
  SEVERAL SMALL TEXTS IN ONE.
-/
import Derived.Test.YtgmgghbocidibaaGreatDoorSm10
import Derived.StillTailTactics
/-
  xml.same, Same, Text.
-/
namespace Go.Proofs.YtgmgghbocidibaaGreatDoor
open Go.RowKit Go.Lib

set_option maxHeartbeats 4000000 in
set_option maxRecDepth 100000 in
theorem same_any : ∀ t, SameC t := by
  apply treeInd
  intro n t ks ih t' a a' c c' w hT hT'
  cases t' with
  | node n' t' ks' =>
  obtain ⟨n, rfl⟩ : ∃ l : Bs, n = ⟨l.toArray⟩ := ⟨n.data.toList, by cases n; rfl⟩
  obtain ⟨t, rfl⟩ : ∃ l : Bs, t = ⟨l.toArray⟩ := ⟨t.data.toList, by cases t; rfl⟩
  obtain ⟨n', rfl⟩ : ∃ l : Bs, n' = ⟨l.toArray⟩ := ⟨n'.data.toList, by cases n'; rfl⟩
  obtain ⟨t', rfl⟩ : ∃ l : Bs, t' = ⟨l.toArray⟩ := ⟨t'.data.toList, by cases t'; rfl⟩
  obtain ⟨-, -, -, -, hkl, a0, c0, he, hK⟩ := hT.cells
  obtain ⟨-, -, -, -, hkl', a0', c0', he', hK'⟩ := hT'.cells
  simp only [Tree.name, Tree.text, Tree.kids] at hkl hkl' he he' hK hK'
  injection he with e1 _ e3
  injection he' with e1' _ e3'
  subst e1 e3 e1' e3'
  have HV : Hid (sameX (.node ⟨n.toArray⟩ ⟨t.toArray⟩ ks) (.node ⟨n'.toArray⟩ ⟨t'.toArray⟩ ks') = ((n == n') && (t == t') && sameKs ks ks')) := rfl
  rw [HV.out]
  simp only [elC, Tree.name, Tree.text, Tree.kids]
  obtain ⟨W0, hw0⟩ : ∃ W0, (w.alloc (.cells #[.string ⟨n.toArray⟩, .string ⟨t.toArray⟩, .slice a ks.length c] 24)).alloc (.cells #[.string ⟨n'.toArray⟩, .string ⟨t'.toArray⟩, .slice a' ks'.length c'] 24) = W0 := ⟨_, rfl⟩
  have B0 : Below w.heap.size w W0 := by rw [← hw0]; exact below_alloc (below_alloc (Below.refl _ _) (Nat.le_refl _) _) (Nat.le_refl _) _
  have X0 : W0.heap[w.heap.size]? = some (.cells #[.string ⟨n.toArray⟩, .string ⟨t.toArray⟩, .slice a ks.length c] 24 (0, 0)) := by rw [← hw0]; exact heap_old _ (heap_alloc_new _ _)
  have X1 : W0.heap[w.heap.size + 1]? = some (.cells #[.string ⟨n'.toArray⟩, .string ⟨t'.toArray⟩, .slice a' ks'.length c'] 24 (0, 0)) := by rw [← hw0]; exact heap_at1 _ _ _
  have k0 : W0.cell? ⟨w.heap.size, 0, none⟩ = some (.string ⟨n.toArray⟩) := cell_at X0 rfl
  have k1 : W0.cell? ⟨w.heap.size, 1, none⟩ = some (.string ⟨t.toArray⟩) := cell_at X0 rfl
  have k2 : W0.cell? ⟨w.heap.size, 2, none⟩ = some (.slice a ks.length c) := cell_at X0 rfl
  have m0 : W0.cell? ⟨w.heap.size + 1, 0, none⟩ = some (.string ⟨n'.toArray⟩) := cell_at X1 rfl
  have m1 : W0.cell? ⟨w.heap.size + 1, 1, none⟩ = some (.string ⟨t'.toArray⟩) := cell_at X1 rfl
  have m2 : W0.cell? ⟨w.heap.size + 1, 2, none⟩ = some (.slice a' ks'.length c') := cell_at X1 rfl
  have HB0 := Lib.hid B0
  have HE := Lib.hid (equalKs_any ih a a' c c' W0 (KidsIn.later B0 _ _ _ hK) (KidsIn.later B0 _ _ _ hK') hkl hkl')
  clear hT hT' hK hK' ih HV X0 X1 B0
  go_enter Tryz.func31, Tryz.ntmps31
  go_upto_region 1 with (fail)
  clear hw0
  by_cases h1 : n = n'
  · subst h1
    by_cases h2 : t = t'
    · subst h2
      go_wp2_with fail
      refine HE.out.mono ?_
      rintro e W1 ⟨rfl, hb⟩
      have HB1 := Lib.hid (HB0.out.trans (hb.mono HB0.out.size))
      clear hb
      go_wp2_with fail
      go_ret
      exact ⟨by simp, HB1.out⟩
    · have h2b : (t == t') = false := beq_eq_false_iff_ne.2 h2
      go_wp2_with fail
      go_ret
      exact ⟨by simp [h2], HB0.out⟩
  · have h1b : (n == n') = false := beq_eq_false_iff_ne.2 h1
    go_wp2_with fail
    go_ret
    exact ⟨by simp [h1], HB0.out⟩

theorem wpList_wanted {P : Program} {ops : Array Oper} {rest : List Oper} {o : Oper} {a : Act} {w : World} {Q : Exit → Act → World → Prop} (hw : Region.wanted o (yielded ops a.tmps) = true) (h : o.wp P a w (wpList P ops Q rest) Q) :
    wpList P ops Q (o :: rest) a w := by
  unfold wpList
  rw [if_pos hw]
  exact .inl h


set_option maxHeartbeats 4000000 in
set_option maxRecDepth 100000 in
theorem Same_prog (t t' : Tree) (a a' : Option Addr) (c c' : Nat) (w : World) (h : ElemIn w t a c) (h' : ElemIn w t' a' c') (hG : GlobC w) :
    Calls Tryz.prog 10 #[.agg (elC t a c), .agg (elC t' a' c')] w fun e w' => e = .returned (.bool (okT t && okT t' && sameX t t')) ∧ Below w.heap.size w w' := by
  have HT := Lib.hid h
  have HT' := Lib.hid h'
  have HG := Lib.hid hG
  clear h h' hG
  obtain ⟨W0, hw0⟩ : ∃ W0, (w.alloc (.cells (elC t a c) 24)).alloc (.cells (elC t' a' c') 24) = W0 := ⟨_, rfl⟩
  have B0 : Below w.heap.size w W0 := by rw [← hw0]; exact below_alloc (below_alloc (Below.refl _ _) (Nat.le_refl _) _) (Nat.le_refl _) _
  have X0 : Hid (W0.heap[w.heap.size]? = some (.cells (elC t a c) 24 (0, 0)) ∧ W0.heap[w.heap.size + 1]? = some (.cells (elC t' a' c') 24 (0, 0))) := by show _ ∧ _; rw [← hw0]; exact ⟨heap_old _ (heap_alloc_new _ _), heap_at1 _ _ _⟩
  have HB0 := Lib.hid B0
  have hz0 : w.heap.size + 1 < W0.heap.size := (Array.getElem?_eq_some_iff.1 X0.out.2).1
  have HO := Lib.hid (isRight_any t a c W0 (HT.out.later B0) (HG.out.later B0))
  clear B0
  unfold elC at hw0 ⊢
  go_enter Tryz.func10, Tryz.ntmps10
  go_wp2_with (refine wpList_load_row (by rfl) 24 _ (by rfl) w.heap.size (by rfl) 24 (elC t a c) (0, 0) _ (by exact X0.out.1) Tryz.underlying24 rfl (by kernel_rfl) ?_)
  clear hw0
  refine HO.out.mono ?_
  rintro e W1 ⟨rfl, hb⟩
  have X1 : Hid (W1.heap[w.heap.size]? = some (.cells (elC t a c) 24 (0, 0)) ∧ W1.heap[w.heap.size + 1]? = some (.cells (elC t' a' c') 24 (0, 0))) := ⟨(hb.block _ (by omega)).trans X0.out.1, (hb.block _ (by omega)).trans X0.out.2⟩
  have HB1 := Lib.hid (HB0.out.trans (hb.mono HB0.out.size))
  have hz1 : w.heap.size + 1 < W1.heap.size := (Array.getElem?_eq_some_iff.1 X1.out.2).1
  clear hb X0 HO HB0 hz0
  cases ho : okT t with
  | false =>
    go_wp2_with fail
    go_ret
    exact ⟨by rw [ho]; rfl, HB1.out⟩
  | true =>
    have HO := Lib.hid (isRight_any t' a' c' W1 (HT'.out.later HB1.out) (HG.out.later HB1.out))
    go_wp2_with (refine wpList_wanted (by go_simp) ?_; refine wp_load_row 24 _ (by rfl) (w.heap.size + 1) (by rfl) 24 (elC t' a' c') (0, 0) _ (by exact X1.out.2) Tryz.underlying24 rfl (by kernel_rfl) ?_)
    refine HO.out.mono ?_
    rintro e W2 ⟨rfl, hb⟩
    have X2 : Hid (W2.heap[w.heap.size]? = some (.cells (elC t a c) 24 (0, 0)) ∧ W2.heap[w.heap.size + 1]? = some (.cells (elC t' a' c') 24 (0, 0))) := ⟨(hb.block _ (by omega)).trans X1.out.1, (hb.block _ (by omega)).trans X1.out.2⟩
    have HB2 := Lib.hid (HB1.out.trans (hb.mono HB1.out.size))
    clear hb X1 HO HB1
    cases ho' : okT t' with
    | false =>
      go_wp2_with fail
      go_ret
      exact ⟨by rw [ho, ho']; rfl, HB2.out⟩
    | true =>
      have HS := Lib.hid (same_any t t' a a' c c' W2 (HT.out.later HB2.out) (HT'.out.later HB2.out))
      go_wp2_with (first
        | (refine wpList_wanted (by go_simp) ?_; refine wp_load_row 24 _ (by rfl) w.heap.size (by rfl) 24 (elC t a c) (0, 0) _ (by exact X2.out.1) Tryz.underlying24 rfl (by kernel_rfl) ?_)
        | (refine wpList_wanted (by go_simp) ?_; refine wp_load_row 24 _ (by rfl) (w.heap.size + 1) (by rfl) 24 (elC t' a' c') (0, 0) _ (by exact X2.out.2) Tryz.underlying24 rfl (by kernel_rfl) ?_))
      refine HS.out.mono ?_
      rintro e W3 ⟨rfl, hb⟩
      have HB3 := Lib.hid (HB2.out.trans (hb.mono HB2.out.size))
      clear hb
      go_wp2_with fail
      go_ret
      exact ⟨by rw [ho, ho']; rfl, HB3.out⟩
end Go.Proofs.YtgmgghbocidibaaGreatDoor

/-
  storehouseref15.Right, alike, Same.
-/
namespace Go.Proofs.YtgmgghbocidibaaGreatDoor
open Go.RowKit Go.Lib Go.PlainAid

set_option maxHeartbeats 4000000 in
set_option maxRecDepth 100000 in
theorem rRightE_any (t : Tree) (a : Option Addr) (c : Nat) (w : World) (h : ElemIn w t a c) :
    Calls Tryz.prog 20 #[.agg (elC t a c)] w fun e w' => e = .returned (.bool (okT t)) ∧ Below w.heap.size w w' := by
  obtain ⟨-, -, hn, ht, hkl, a', c', he, hK⟩ := h.cells
  injection he with e1 _ e3
  subst e1 e3
  unfold elC
  obtain ⟨W0, hw0⟩ : ∃ W0, w.alloc (.cells #[.string t.name, .string t.text, .slice a t.kids.length c] 24) = W0 := ⟨_, rfl⟩
  have B0 : Below w.heap.size w W0 := by rw [← hw0]; exact below_alloc (Below.refl _ _) (Nat.le_refl _) _
  have X0 : Hid (W0.heap[w.heap.size]? = some (.cells (elC t a c) 24 (0, 0))) := by show _ = _; rw [← hw0]; exact heap_alloc_new _ _
  have HB0 := Lib.hid B0
  have HR := Lib.hid (rRight_any t a c 0 20000 W0 hkl (by decide) (by decide) (by decide) (by decide) hn ht (KidsIn.later B0 _ _ _ hK))
  have HO : Hid ((rightV t 0 20000).1 = okT t) := by
    show _ = _
    unfold okT
    exact congrArg Prod.fst (right_link t 0 20000 (by decide))
  clear h hK B0
  go_enter Tryz.func20, Tryz.ntmps20
  go_wp2_with (refine wpList_load_row (by rfl) 24 _ (by rfl) w.heap.size (by rfl) 24 (elC t a c) (0, 0) _ (by exact X0.out) Tryz.underlying24 rfl (by kernel_rfl) ?_)
  refine HR.out.mono ?_
  rintro e W1 ⟨rfl, hb⟩
  have HB1 := Lib.hid (HB0.out.trans (hb.mono HB0.out.size))
  clear hb
  go_wp2_with fail
  go_ret
  rw [HO.out]
  exact ⟨rfl, HB1.out⟩
end Go.Proofs.YtgmgghbocidibaaGreatDoor

/-
  storehouseref15.alike: are two elements the same.
-/
namespace Go.Proofs.YtgmgghbocidibaaGreatDoor
open Go.RowKit Go.Lib Go.PlainAid

def AlikeC (t : Tree) : Prop := ∀ (t' : Tree) (a a' : Option Addr) (c c' : Nat) (w : World), ElemIn w t a c → ElemIn w t' a' c' →
  Calls Tryz.prog 33 #[.agg (elC t a c), .agg (elC t' a' c')] w fun e w' => e = .returned (.bool (sameX t t')) ∧ Below w.heap.size w w'
structure Box2 (w W : World) (es es' : Array Value) : Prop where
  below : Below w.heap.size w W
  one : W.heap[w.heap.size]? = some (.cells es 24 (0, 0))
  two : W.heap[w.heap.size + 1]? = some (.cells es' 24 (0, 0))
theorem Box2.later {w W W' : World} {es es' : Array Value} (h : Box2 w W es es') (hb : Below W.heap.size W W') : Box2 w W' es es' :=
  ⟨h.below.trans (hb.mono h.below.size), (hb.block _ (Array.getElem?_eq_some_iff.1 h.one).1).trans h.one, (hb.block _ (Array.getElem?_eq_some_iff.1 h.two).1).trans h.two⟩

set_option maxHeartbeats 4000000 in
set_option maxRecDepth 100000 in
theorem alikeX_any : ∀ t, AlikeC t := by
  apply treeInd
  intro n t ks ih t2 a a' c c' w h h'
  obtain ⟨n2, t2, ks2⟩ := t2
  obtain ⟨n, rfl⟩ : ∃ l : Bs, n = ⟨l.toArray⟩ := ⟨n.data.toList, by cases n; rfl⟩
  obtain ⟨t, rfl⟩ : ∃ l : Bs, t = ⟨l.toArray⟩ := ⟨t.data.toList, by cases t; rfl⟩
  obtain ⟨n2, rfl⟩ : ∃ l : Bs, n2 = ⟨l.toArray⟩ := ⟨n2.data.toList, by cases n2; rfl⟩
  obtain ⟨t2, rfl⟩ : ∃ l : Bs, t2 = ⟨l.toArray⟩ := ⟨t2.data.toList, by cases t2; rfl⟩
  obtain ⟨-, -, hn, ht, hkl, a0, c0, he, hK⟩ := h.cells
  injection he with e1 _ e3
  subst e1 e3
  obtain ⟨-, -, hn', ht', hkl', a1, c1, he', hK'⟩ := h'.cells
  injection he' with e1 _ e3
  subst e1 e3
  simp only [Tree.name, Tree.text, Tree.kids] at hn ht hkl hn' ht' hkl' hK hK'
  have HIH := Lib.hid ih
  have HK := Lib.hid hK
  have HK' := Lib.hid hK'
  have HV : Hid (sameX (.node ⟨n.toArray⟩ ⟨t.toArray⟩ ks) (.node ⟨n2.toArray⟩ ⟨t2.toArray⟩ ks2) = ((n == n2) && (t == t2) && sameKs ks ks2)) := rfl
  rw [HV.out]
  unfold elC
  simp only [Tree.name, Tree.text, Tree.kids]
  obtain ⟨W0, hw0⟩ : ∃ W0, (w.alloc (.cells #[.string ⟨n.toArray⟩, .string ⟨t.toArray⟩, .slice a ks.length c] 24)).alloc (.cells #[.string ⟨n2.toArray⟩, .string ⟨t2.toArray⟩, .slice a' ks2.length c'] 24) = W0 := ⟨_, rfl⟩
  have X0 : Hid (Box2 w W0 #[.string ⟨n.toArray⟩, .string ⟨t.toArray⟩, .slice a ks.length c] #[.string ⟨n2.toArray⟩, .string ⟨t2.toArray⟩, .slice a' ks2.length c']) := by
    refine ⟨?_, ?_, ?_⟩
    · rw [← hw0]; exact below_alloc (below_alloc (Below.refl _ _) (Nat.le_refl _) _) (Nat.le_refl _) _
    · rw [← hw0]; exact heap_old _ (heap_alloc_new _ _)
    · rw [← hw0]; exact heap_at1 _ _ _
  have p0 : W0.cell? ⟨w.heap.size, 0, none⟩ = some (.string ⟨n.toArray⟩) := cell_at X0.out.one rfl
  have p1 : W0.cell? ⟨w.heap.size, 1, none⟩ = some (.string ⟨t.toArray⟩) := cell_at X0.out.one rfl
  have p2 : W0.cell? ⟨w.heap.size, 2, none⟩ = some (.slice a ks.length c) := cell_at X0.out.one rfl
  have q0 : W0.cell? ⟨w.heap.size + 1, 0, none⟩ = some (.string ⟨n2.toArray⟩) := cell_at X0.out.two rfl
  have q1 : W0.cell? ⟨w.heap.size + 1, 1, none⟩ = some (.string ⟨t2.toArray⟩) := cell_at X0.out.two rfl
  have q2 : W0.cell? ⟨w.heap.size + 1, 2, none⟩ = some (.slice a' ks2.length c') := cell_at X0.out.two rfl
  clear h h' hK hK' ih HV
  go_enter Tryz.func33, Tryz.ntmps33
  go_upto_region 1 with (fail)
  clear hw0
  by_cases g1 : n = n2
  · subst g1
    by_cases g2 : t = t2
    · subst g2
      by_cases g3 : ks.length = ks2.length
      · have G3 := Lib.hid g3
        have g3z : (ks.length : Int) = (ks2.length : Int) := by omega
        have g3b : ((ks.length : Int) == (ks2.length : Int)) = true := beq_iff_eq.2 g3z
        clear g3 g3z
        go_wp2_with fail
        clear p0 p1 p2 q0 q1 q2 g3b
        go_loopg [5] ks.length (fun gg s5 wr => ∃ i : Nat, i ≤ ks.length ∧ ks.length - i ≤ gg ∧ s5 = .int .i64 i ∧ Hid (Box2 w wr #[.string ⟨n.toArray⟩, .string ⟨t.toArray⟩, .slice a ks.length c] #[.string ⟨n.toArray⟩, .string ⟨t.toArray⟩, .slice a' ks2.length c']) ∧ Hid (sameKs ks ks2 = sameKs (ks.drop i) (ks2.drop i)))
        case atStart => exact ⟨0, Nat.zero_le _, by omega, rfl, X0.out, rfl⟩
        case round =>
          obtain ⟨i, hi, hg, rfl, XR, HS⟩ := hrel
          have p2 : wr.cell? ⟨w.heap.size, 2, none⟩ = some (.slice a ks.length c) := cell_at XR.out.one rfl
          have q2 : wr.cell? ⟨w.heap.size + 1, 2, none⟩ = some (.slice a' ks2.length c') := cell_at XR.out.two rfl
          by_cases hlt : i < ks.length
          · have hiz : (i : Int) < (ks.length : Int) := by omega
            have hlt2 : i < ks2.length := by have := G3.out; omega
            have hiz2 : (i : Int) < (ks2.length : Int) := by omega
            obtain ⟨k, hik⟩ : ∃ k, ks[i]? = some k := ⟨_, List.getElem?_eq_getElem hlt⟩
            obtain ⟨k2, hik2⟩ : ∃ k, ks2[i]? = some k := ⟨_, List.getElem?_eq_getElem hlt2⟩
            obtain ⟨b, off, a2, c2, rfl, hrg, hkT⟩ := kid_range (KidsIn.later XR.out.below _ _ _ HK.out) hik
            obtain ⟨b2, off2, a3, c3, rfl, hrg2, hkT2⟩ := kid_range (KidsIn.later XR.out.below _ _ _ HK'.out) hik2
            have HSK := Lib.hid (sameKs_at hik hik2)
            have r0 : wr.cell? ⟨b, off + i * 3, none⟩ = some (.string k.name) := hrg 0 _ rfl
            have r1 : wr.cell? ⟨b, off + i * 3 + 1, none⟩ = some (.string k.text) := hrg 1 _ rfl
            have r2 : wr.cell? ⟨b, off + i * 3 + 2, none⟩ = some (.slice a2 k.kids.length c2) := hrg 2 _ rfl
            have u0 : wr.cell? ⟨b2, off2 + i * 3, none⟩ = some (.string k2.name) := hrg2 0 _ rfl
            have u1 : wr.cell? ⟨b2, off2 + i * 3 + 1, none⟩ = some (.string k2.text) := hrg2 1 _ rfl
            have u2 : wr.cell? ⟨b2, off2 + i * 3 + 2, none⟩ = some (.slice a3 k2.kids.length c3) := hrg2 2 _ rfl
            have HC := Lib.hid (fun W (hW : Below wr.heap.size wr W) => HIH.out k (List.mem_of_getElem? hik) k2 a2 a3 c2 c3 W (hkT.later hW) (hkT2.later hW))
            unfold elC at HC
            clear hrg hrg2 hkT hkT2 hik hik2
            go_wp2
            go_still_tail 10, (by kernel_rfl)
            change wpList _ _ _ _ _ wr.drew
            obtain ⟨wd, hwd⟩ : ∃ wd, Hid (wr.drew = wd) := ⟨_, rfl⟩
            rw [hwd.out]
            have BD : Hid (Below wr.heap.size wr wd) := by show Below _ _ _; rw [← hwd.out]; exact (Below.refl _ _).drew
            clear r0 r1 r2 u0 u1 u2 p2 q2
            go_wp2_with fail
            refine (HC.out wd BD.out).mono ?_
            rintro e w1 ⟨rfl, hb1⟩
            have X1 := Lib.hid (XR.out.later (BD.out.trans (hb1.mono BD.out.size)))
            clear hb1 hwd
            cases hkk : sameX k k2 with
            | false =>
              have HZ : Hid (sameKs ks ks2 = false) := by show _ = _; rw [HS.out, HSK.out, hkk]; rfl
              go_wp2_with fail
              go_ret
              exact ⟨by rw [HZ.out]; simp, X1.out.below⟩
            | true =>
              have HZ : Hid (sameKs ks ks2 = sameKs (ks.drop (i + 1)) (ks2.drop (i + 1))) := by show _ = _; rw [HS.out, HSK.out, hkk]; rfl
              go_wp2_with fail
              go_roundg (ks.length - (i + 1))
              case measure => omega
              case rel => exact ⟨i + 1, by omega, Nat.le_refl _, by go_num, X1.out, HZ.out⟩
          · obtain rfl : i = ks.length := by omega
            have HZ : Hid (sameKs ks ks2 = true) := by show _ = _; rw [HS.out, List.drop_length, G3.out, List.drop_length]; rfl
            go_wp2_with fail
            go_ret
            exact ⟨by rw [HZ.out]; simp, XR.out.below⟩
      · have g3z : ¬ (ks.length : Int) = (ks2.length : Int) := by omega
        have g3b : ((ks.length : Int) == (ks2.length : Int)) = false := beq_eq_false_iff_ne.2 g3z
        go_wp2_with fail
        go_ret
        exact ⟨by rw [sameKs_len g3]; simp, X0.out.below⟩
    · have g2b : (t == t2) = false := beq_eq_false_iff_ne.2 g2
      go_wp2_with fail
      go_ret
      exact ⟨by simp [g2], X0.out.below⟩
  · have g1b : (n == n2) = false := beq_eq_false_iff_ne.2 g1
    go_wp2_with fail
    go_ret
    exact ⟨by simp [g1], X0.out.below⟩
end Go.Proofs.YtgmgghbocidibaaGreatDoor
