/-
  SEVERAL SMALL TEXTS IN ONE.
-/
import Derived.Test.YtgmgghbocidibaaGreatDoorSm11
/-
  storehouseref15.Same.
-/
namespace Go.Proofs.YtgmgghbocidibaaGreatDoor
open Go.RowKit Go.Lib Go.PlainAid

set_option maxHeartbeats 4000000 in
set_option maxRecDepth 100000 in
theorem rSame_any (t t' : Tree) (a a' : Option Addr) (c c' : Nat) (w : World) (h : ElemIn w t a c) (h' : ElemIn w t' a' c') :
    Calls Tryz.prog 15 #[.agg (elC t a c), .agg (elC t' a' c')] w fun e w' => e = .returned (.bool (okT t && okT t' && sameX t t')) ∧ Below w.heap.size w w' := by
  have HT := Lib.hid h
  have HT' := Lib.hid h'
  clear h h'
  obtain ⟨W0, hw0⟩ : ∃ W0, (w.alloc (.cells (elC t a c) 24)).alloc (.cells (elC t' a' c') 24) = W0 := ⟨_, rfl⟩
  have X0 : Hid (Box2 w W0 (elC t a c) (elC t' a' c')) := by
    refine ⟨?_, ?_, ?_⟩
    · rw [← hw0]; exact below_alloc (below_alloc (Below.refl _ _) (Nat.le_refl _) _) (Nat.le_refl _) _
    · rw [← hw0]; exact heap_old _ (heap_alloc_new _ _)
    · rw [← hw0]; exact heap_at1 _ _ _
  have HR := Lib.hid (rRightE_any t a c W0 (HT.out.later X0.out.below))
  unfold elC at hw0 ⊢
  go_enter Tryz.func15, Tryz.ntmps15
  go_wp2_with (refine wpList_load_row (by rfl) 24 _ (by rfl) w.heap.size (by rfl) 24 (elC t a c) (0, 0) _ (by exact X0.out.one) Tryz.underlying24 rfl (by kernel_rfl) ?_)
  clear hw0
  refine HR.out.mono ?_
  rintro e W1 ⟨rfl, hb⟩
  have X1 := Lib.hid (X0.out.later hb)
  have HR' := Lib.hid (rRightE_any t' a' c' W1 (HT'.out.later X1.out.below))
  clear hb X0 HR
  go_wp2_with (refine wpList_load_row (by rfl) 24 _ (by rfl) (w.heap.size + 1) (by rfl) 24 (elC t' a' c') (0, 0) _ (by exact X1.out.two) Tryz.underlying24 rfl (by kernel_rfl) ?_)
  refine HR'.out.mono ?_
  rintro e W2 ⟨rfl, hb⟩
  have X2 := Lib.hid (X1.out.later hb)
  clear hb X1 HR'
  cases ho : okT t with
  | false =>
    go_wp2_with fail
    go_ret
    exact ⟨by rw [ho]; simp, X2.out.below⟩
  | true =>
    cases ho' : okT t' with
    | false =>
      go_wp2_with fail
      go_ret
      exact ⟨by rw [ho, ho']; simp, X2.out.below⟩
    | true =>
      have HS := Lib.hid (alikeX_any t t' a a' c c' W2 (HT.out.later X2.out.below) (HT'.out.later X2.out.below))
      go_wp2_with (first
        | (refine wpList_wanted (by go_simp) ?_; refine wp_load_row 24 _ (by rfl) w.heap.size (by rfl) 24 (elC t a c) (0, 0) _ (by exact X2.out.one) Tryz.underlying24 rfl (by kernel_rfl) ?_)
        | (refine wpList_wanted (by go_simp) ?_; refine wp_load_row 24 _ (by rfl) (w.heap.size + 1) (by rfl) 24 (elC t' a' c') (0, 0) _ (by exact X2.out.two) Tryz.underlying24 rfl (by kernel_rfl) ?_))
      refine HS.out.mono ?_
      rintro e W3 ⟨rfl, hb⟩
      have X3 := Lib.hid (X2.out.later hb)
      clear hb
      go_wp2_with fail
      go_ret
      exact ⟨by rw [ho, ho']; simp, X3.out.below⟩
end Go.Proofs.YtgmgghbocidibaaGreatDoor

/-
  xml.Text: the text of the only kid of a name, if it has no kids.
-/
namespace Go.Proofs.YtgmgghbocidibaaGreatDoor
open Go.RowKit Go.Lib

def namedX (nm : Bs) (k : Tree) : Bool := k.name.data.toList == nm
def textX (ks : List Tree) (nm : Bs) : Bs × Bool := match ks.filter (namedX nm) with
  | [k] => if k.kids = [] then (k.text.data.toList, true) else ([], false)
  | _ => ([], false)
theorem filter_take {p : Tree → Bool} {ks : List Tree} {i : Nat} {k : Tree} (h : ks[i]? = some k) : (ks.take (i + 1)).filter p = (ks.take i).filter p ++ if p k then [k] else [] := by
  rw [List.take_add_one, h, List.filter_append]
  simp only [Option.toList_some, List.filter_cons, List.filter_nil]
theorem filter_two {p : Tree → Bool} {ks : List Tree} {i : Nat} {k k2 : Tree} (h : ks[i]? = some k) (hp : p k = true) (h2 : (ks.take i).filter p = [k2]) : ∃ r, ks.filter p = k2 :: k :: r := by
  have := filter_take (p := p) h
  rw [hp, if_pos rfl, h2] at this
  refine ⟨(ks.drop (i + 1)).filter p, ?_⟩
  conv => lhs; rw [← List.take_append_drop (i + 1) ks]
  rw [List.filter_append, this]
  rfl
/-- what the loop knows -/
def TextAt (ks : List Tree) (nm : Bs) (i : Nat) (at_ : Int) : Prop := (at_ = -1 ∧ (ks.take i).filter (namedX nm) = []) ∨ ∃ (j : Nat) (k : Tree), at_ = j ∧ ks[j]? = some k ∧ (ks.take i).filter (namedX nm) = [k]
theorem name_list (k : Tree) : Value.string k.name = .string ⟨k.name.data.toList.toArray⟩ := by cases k.name; rfl

set_option maxHeartbeats 4000000 in
set_option maxRecDepth 100000 in
theorem Text_any (t : Tree) (nm : Bs) (a : Option Addr) (c : Nat) (w : World) (h : ElemIn w t a c) :
    Calls Tryz.prog 18 #[.agg (elC t a c), .string ⟨nm.toArray⟩] w fun e w' => e = .returned (.tuple #[.string ⟨(textX t.kids nm).1.toArray⟩, .bool (textX t.kids nm).2]) ∧ Below w.heap.size w w' := by
  obtain ⟨-, -, -, -, hkl, a0, c0, he, hK⟩ := h.cells
  injection he with e1 _ e3
  subst e1 e3
  unfold elC
  obtain ⟨W0, hw0⟩ : ∃ W0, w.alloc (.cells #[.string t.name, .string t.text, .slice a t.kids.length c] 24) = W0 := ⟨_, rfl⟩
  have B0 : Below w.heap.size w W0 := by rw [← hw0]; exact below_alloc (Below.refl _ _) (Nat.le_refl _) _
  have X0 : W0.heap[w.heap.size]? = some (.cells #[.string t.name, .string t.text, .slice a t.kids.length c] 24 (0, 0)) := by rw [← hw0]; exact heap_alloc_new _ _
  have HC2 : Hid (W0.cell? ⟨w.heap.size, 2, none⟩ = some (.slice a t.kids.length c)) := cell_at X0 rfl
  have HK := Lib.hid (KidsIn.later B0 _ _ _ hK)
  have HB0 := Lib.hid B0
  generalize t.name = tn at *
  generalize t.text = tt at *
  generalize t.kids = ks at *
  clear h hK X0 B0
  have k2 := HC2.out
  go_enter Tryz.func18, Tryz.ntmps18
  go_wp2_with fail
  go_loopg [6, 12] ks.length (fun gg s6 s12 wr => ∃ (i : Nat) (at_ : Int), i ≤ ks.length ∧ ks.length - i ≤ gg ∧ s6 = .int .i64 at_ ∧ s12 = .int .i64 i ∧ Hid (Below W0.heap.size W0 wr) ∧ Hid (TextAt ks nm i at_))
  case atStart => exact ⟨0, -1, Nat.zero_le _, by omega, rfl, rfl, Below.refl _ _, .inl ⟨rfl, rfl⟩⟩
  case round =>
    clear hw0 k2
    obtain ⟨i, at_, hi, hg, rfl, rfl, HB, HA⟩ := hrel
    by_cases hlt : i < ks.length
    · have hiz : (i : Int) < (ks.length : Int) := by omega
      obtain ⟨k, hik⟩ : ∃ k, ks[i]? = some k := ⟨_, List.getElem?_eq_getElem hlt⟩
      obtain ⟨b, o, a2, c2, rfl, hr, -⟩ := kid_range (KidsIn.later HB.out _ _ _ HK.out) hik
      have HR := Lib.hid hr
      have HIK := Lib.hid hik
      clear hr hik
      go_upto_region 5 with (first
        | (refine wpList_load_mid (by rfl) 24 _ (by rfl) b (o + i * 3) (by rfl) [.string k.name, .string k.text, .slice a2 k.kids.length c2] _ HR.out Tryz.underlying24 rfl (by kernel_rfl) ?_)
        | (refine wpList_store_rowN (by rfl) 24 _ _ (by rfl) wr.heap.size (elC k a2 c2) (by rfl) (by rfl) 24 elemZC (by exact heap_alloc_new _ _) (by kernel_rfl) (by rfl) (by kernel_rfl) (fun W => W.heap[wr.heap.size]? = some (.cells (elC k a2 c2) 24 (0, 0)) ∧ Below wr.heap.size wr W) (by rw [setRow_alloc _ _ _ _ _ rfl]; exact ⟨heap_alloc_new _ _, below_alloc (Below.refl _ _) (Nat.le_refl _) _⟩) ?_; rintro W1 h1))
      have m0 : W1.cell? ⟨wr.heap.size, 0, none⟩ = some (.string ⟨k.name.data.toList.toArray⟩) := by rw [← name_list]; exact cell_at h1.1 rfl
      have HB1 := Lib.hid (HB.out.trans (h1.2.mono HB.out.size))
      have HN : Hid (namedX nm k = (k.name.data.toList == nm)) := rfl
      generalize wr.heap.size = g8 at *
      generalize k.name.data.toList = kn at *
      clear h1 HR
      by_cases hn : kn = nm
      · have HP : Hid (namedX nm k = true) := by show _ = _; rw [HN.out, hn]; simp
        subst hn
        rcases HA.out with ⟨rfl, hf⟩ | ⟨j, k', rfl, hj, hf⟩
        · have HA2 : Hid (TextAt ks kn (i + 1) i) := .inr ⟨i, k, rfl, HIK.out, by rw [filter_take HIK.out, hf, HP.out]; rfl⟩
          clear hf HA
          go_wp2_with fail
          go_roundg (ks.length - (i + 1))
          case measure => omega
          case rel => exact ⟨i + 1, i, by omega, Nat.le_refl _, rfl, by go_num, HB1.out, HA2.out⟩
        · have HF : Hid (textX ks kn = ([], false)) := by
            show _ = _
            obtain ⟨r, hr⟩ := filter_two HIK.out HP.out hf
            unfold textX
            rw [hr]
          have HE : Hid (Below w.heap.size w W1) := HB0.out.trans (HB1.out.mono HB0.out.size)
          clear hf hj HA
          go_wp2_with fail
          go_ret2
          exact ⟨by rw [HF.out]; rfl, HE.out⟩
      · have hnb : (kn == nm) = false := beq_eq_false_iff_ne.2 hn
        have HP : Hid (namedX nm k = false) := by show _ = _; rw [HN.out, hnb]
        have HA2 : Hid (TextAt ks nm (i + 1) at_) := by
          rcases HA.out with ⟨h1, hf⟩ | ⟨j, k', h1, hj, hf⟩
          · exact .inl ⟨h1, by rw [filter_take HIK.out, hf, HP.out]; rfl⟩
          · exact .inr ⟨j, k', h1, hj, by rw [filter_take HIK.out, hf, HP.out]; rfl⟩
        go_wp2_with fail
        go_roundg (ks.length - (i + 1))
        case measure => omega
        case rel => exact ⟨i + 1, at_, by omega, Nat.le_refl _, rfl, by go_num, HB1.out, HA2.out⟩
    · obtain rfl : i = ks.length := by omega
      have k2 := cell_later HB.out HC2.out
      have HE : Hid (Below w.heap.size w wr) := HB0.out.trans (HB.out.mono HB0.out.size)
      rcases HA.out with ⟨rfl, hf⟩ | ⟨j, k, rfl, hj, hf⟩
      · have HF : Hid (textX ks nm = ([], false)) := by
          show _ = _
          rw [List.take_length] at hf
          unfold textX
          rw [hf]
        clear hf
        go_wp2_with fail
        go_ret2
        exact ⟨by rw [HF.out]; rfl, HE.out⟩
      · have hjl := (List.getElem?_eq_some_iff.1 hj).1
        have hjz : (j : Int) < (ks.length : Int) := by omega
        obtain ⟨b, o, a2, c2, rfl, hr, -⟩ := kid_range (KidsIn.later HB.out _ _ _ HK.out) hj
        have q1 : wr.cell? ⟨b, o + j * 3 + 1, none⟩ = some (.string k.text) := hr 1 _ rfl
        have q2 : wr.cell? ⟨b, o + j * 3 + 2, none⟩ = some (.slice a2 k.kids.length c2) := hr 2 _ rfl
        have HF : Hid (textX ks nm = if k.kids = [] then (k.text.data.toList, true) else ([], false)) := by
          show _ = _
          rw [List.take_length] at hf
          unfold textX
          rw [hf]
        clear hf hr hj HA
        by_cases hkk : k.kids.length = 0
        · have HF2 : Hid (textX ks nm = (k.text.data.toList, true)) := by show _ = _; rw [HF.out, if_pos (List.eq_nil_of_length_eq_zero hkk)]
          have hkz : ¬ (0 : Int) < (k.kids.length : Int) := by omega
          go_wp2_with fail
          go_ret2
          exact ⟨by rw [HF2.out]; cases k.text; rfl, HE.out⟩
        · have HF2 : Hid (textX ks nm = ([], false)) := by show _ = _; rw [HF.out, if_neg (fun e => hkk (by rw [e]; rfl))]
          have hkz : (0 : Int) < (k.kids.length : Int) := by omega
          go_wp2_with fail
          go_ret2
          exact ⟨by rw [HF2.out]; rfl, HE.out⟩
end Go.Proofs.YtgmgghbocidibaaGreatDoor
