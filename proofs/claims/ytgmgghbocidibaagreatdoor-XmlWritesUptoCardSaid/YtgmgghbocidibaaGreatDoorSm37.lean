/-
  SEVERAL SMALL TEXTS IN ONE.
-/
import Derived.Test.YtgmgghbocidibaaGreatDoorXwTold
import Derived.Test.YtgmgghbocidibaaGreatDoorSm35
import Derived.Test.YtgmgghbocidibaaGreatDoorXmFind
/-
  storehouseref15.Write: the document's text, or why not.
-/
namespace Go.Proofs.YtgmgghbocidibaaGreatDoor
open Go.RowKit Go.Lib Go.PlainAid

set_option maxHeartbeats 4000000 in
set_option maxRecDepth 100000 in
theorem rWrite_any (t : Tree) (a : Option Addr) (c : Nat) (w : World) (h : ElemIn w t a c) (hS : okT t = true → SmT t) :
    Calls Tryz.prog 12 #[.agg (elC t a c)] w fun e w' => e = .returned (.tuple #[.string ⟨(wOut t).1.toArray⟩, .int .i64 (wOut t).2]) ∧ Below w.heap.size w w' := by
  have HT := Lib.hid h
  have HS := Lib.hid hS
  clear h hS
  obtain ⟨W0, hw0⟩ : ∃ W0, w.alloc (.cells #[.string t.name, .string t.text, .slice a t.kids.length c] 24) = W0 := ⟨_, rfl⟩
  have X0 : Hid (WBox w W0 (elC t a c)) := ⟨by rw [← hw0]; exact below_alloc (Below.refl _ _) (Nat.le_refl _) _, by rw [← hw0]; exact heap_alloc_new _ _⟩
  have HR := Lib.hid (rRightE_any t a c W0 (HT.out.later X0.out.below))
  rw [show Value.agg (elC t a c) = .agg #[.string t.name, .string t.text, .slice a t.kids.length c] from rfl]
  go_enter Tryz.func12, Tryz.ntmps12
  go_wp2_with (refine wpList_load_row (by rfl) 24 _ (by rfl) w.heap.size (by rfl) 24 (elC t a c) (0, 0) _ (by exact X0.out.box) Tryz.underlying24 rfl (by kernel_rfl) ?_)
  refine HR.out.mono ?_
  rintro e W1 ⟨rfl, hb1⟩
  have X1 := Lib.hid (X0.out.later hb1)
  clear hb1 X0 HR hw0
  cases hok : okT t with
  | false =>
    have HE : Hid (wOut t = ([], 55)) := by show _ = _; unfold wOut; rw [if_pos hok]
    go_wp2_with fail
    go_ret2
    rw [HE.out]
    exact ⟨rfl, X1.out.below⟩
  | true =>
    have HE : Hid (wOut t = if 1000000 < (headC ++ writeL t).length then ([], 56) else (headC ++ writeL t, 0)) := by show _ = _; unfold wOut; rw [if_neg (by rw [hok]; decide)]
    have HSM := Lib.hid (HS.out hok)
    have HC := Lib.hid ((okT_iff t).1 hok).2
    clear hok HS
    obtain ⟨W4, hw4⟩ : ∃ W4, W1.alloc (.cells (byteCells headC).toArray 5 ((byteCells headC).toArray.size, (byteCells headC).toArray.size + 1)) = W4 := ⟨_, rfl⟩
    obtain ⟨V4, hv4⟩ : ∃ V4, W1.alloc (.cells (byteCells headC).toArray 5) = V4 := ⟨_, rfl⟩
    have B4 : Below W1.heap.size W1 W4 := by rw [← hw4]; exact below_alloc (Below.refl _ _) (Nat.le_refl _) _
    have X4 := Lib.hid (X1.out.later B4)
    have HOWN : Hid (Ref.WrAt w W4 (.slice (some ⟨W1.heap.size, 0, none⟩) 39 39) headC) :=
      ⟨X4.out.below, .full W1.heap.size _ rfl X1.out.below.size (by rw [← hw4]; exact heap_alloc_new _ _)⟩
    have hb := write_bound t HSM.out
    have hcnt := HC.out
    have HWR := Lib.hid (Ref.told_any t w W4 (.slice (some ⟨W1.heap.size, 0, none⟩) 39 39) headC a c HT.out HSM.out (by have : headC.length = 39 := rfl; omega) HOWN.out)
    clear hb hcnt B4
    have HCV : Hid ((convert 51 51 (.slice (some ⟨W1.heap.size, 0, none⟩) 39 39)).run Tryz.prog V4 = .ok (.slice (some ⟨W1.heap.size, 0, none⟩) 39 39) W4) := by
      show _ = _
      rw [← hv4, ← hw4]
      exact run_convert_bytes_const W1 51 5 _ 39 39 Tryz.underlying51 Tryz.underlying5
    go_wp2_with (first
      | (refine wpList_convert_to (by rfl) 51 51 _ (by rfl) (.slice (some ⟨W1.heap.size, 0, none⟩) 39 39) (.slice (some ⟨W1.heap.size, 0, none⟩) 39 39) W4 (by rfl) HCV.out ?_; clear hw4)
      | (refine wpList_known (by rfl) (.buildSlice 51 39 _) (by rfl) (.slice (some ⟨W1.heap.size, 0, none⟩) 39 39) V4 (by rw [← hv4]; kernel_rfl) ?_; clear hv4)
      | (refine wpList_load_row (by rfl) 24 _ (by rfl) w.heap.size (by rfl) 24 (elC t a c) (0, 0) _ (by exact X4.out.box) Tryz.underlying24 rfl (by kernel_rfl) ?_))
    refine HWR.out.mono ?_
    rintro e W5 ⟨v5, rfl, hA, hC, hN⟩
    have HA := Lib.hid hA
    have B5 : Hid (Below w.heap.size w W5) := hA.below
    clear hA hC hN HWR HOWN X4 X1
    obtain ⟨p5, c5, rfl⟩ := HA.out.form
    have HTX := Lib.hid (own_textX HA.out.own)
    have HLW := Lib.hid (wr_head t)
    by_cases g1 : 1000000 < (wrT t headC).length
    · have g1z : (1000000 : Int) < ((wrT t headC).length : Int) := by omega
      have HE2 : Hid (wOut t = ([], 56)) := by show _ = _; rw [HE.out, if_pos (HLW.out.1.1 g1)]
      go_wp2_with fail
      go_ret2
      rw [HE2.out]
      exact ⟨rfl, B5.out⟩
    · have g1z : ¬ (1000000 : Int) < ((wrT t headC).length : Int) := by omega
      have hng : ¬ 1000000 < (headC ++ writeL t).length := fun h => g1 (HLW.out.1.2 h)
      have HE2 : Hid (wOut t = (wrT t headC, 0)) := by show _ = _; rw [HE.out, if_neg hng, HLW.out.2 (Nat.le_of_not_lt hng)]
      clear hng
      go_wp2_with (refine wpList_convert_known (by rfl) 51 9 _ (by rfl) (.slice p5 (wrT t headC).length c5) (.string ⟨(wrT t headC).toArray⟩) (by rfl) HTX.out ?_)
      go_ret2
      rw [HE2.out]
      exact ⟨rfl, B5.out⟩
end Go.Proofs.YtgmgghbocidibaaGreatDoor

/-
  storehouselaw15.many: some number.
-/
namespace Go.Proofs.YtgmgghbocidibaaGreatDoor
open Go.RowKit Go.Lib

def ManyC (t : Tree) : Prop := ∀ (a : Option Addr) (c : Nat) (w : World), ElemIn w t a c → Calls Tryz.prog 13 #[.agg (elC t a c)] w fun e w' => (∃ n : Int, e = .returned (.int .i64 n)) ∧ Below w.heap.size w w'

set_option maxHeartbeats 4000000 in
set_option maxRecDepth 100000 in
theorem many_any : ∀ t, ManyC t := by
  apply treeInd
  intro n t ks ih a c w hT
  obtain ⟨-, -, hn, ht, hkl, a', c', he, hK⟩ := hT.cells
  simp only [Tree.name, Tree.text, Tree.kids] at hn ht hkl he hK ⊢
  injection he with e1 _ e3
  subst e1 e3
  have HIH := Lib.hid ih
  have HK := Lib.hid hK
  unfold elC
  simp only [Tree.name, Tree.text, Tree.kids]
  obtain ⟨W0, hw0⟩ : ∃ W0, w.alloc (.cells #[.string n, .string t, .slice a ks.length c] 24) = W0 := ⟨_, rfl⟩
  have X0 : Hid (WBox w W0 #[.string n, .string t, .slice a ks.length c]) := ⟨by rw [← hw0]; exact below_alloc (Below.refl _ _) (Nat.le_refl _) _, by rw [← hw0]; exact heap_alloc_new _ _⟩
  clear hT hK ih
  go_enter Tryz.func13, Tryz.ntmps13
  go_upto_region 2 with (fail)
  clear hw0
  go_wp2_with fail
  go_loopg [3, 4] ks.length (fun gg s3 s4 wr => ∃ (i : Nat) (m : Int), i ≤ ks.length ∧ ks.length - i ≤ gg ∧ s3 = .int .i64 m ∧ s4 = .int .i64 i ∧ Hid (WBox w wr #[.string n, .string t, .slice a ks.length c]))
  case atStart => exact ⟨0, 1, Nat.zero_le _, by omega, rfl, rfl, X0.out⟩
  case round =>
    obtain ⟨i, m, hi, hg, rfl, rfl, XR⟩ := hrel
    have k2 : wr.cell? ⟨w.heap.size, 2, none⟩ = some (.slice a ks.length c) := cell_at XR.out.box rfl
    by_cases hlt : i < ks.length
    · have hiz : (i : Int) < (ks.length : Int) := by omega
      by_cases hm : m < 30000
      · obtain ⟨k, hik⟩ : ∃ k, ks[i]? = some k := ⟨_, List.getElem?_eq_getElem hlt⟩
        obtain ⟨b, off, a2, c2, rfl, hrg, hkT⟩ := kid_range (KidsIn.later XR.out.below _ _ _ HK.out) hik
        have HKC := Lib.hid hrg
        have HM := Lib.hid (HIH.out k (List.mem_of_getElem? hik) a2 c2 wr hkT)
        clear hrg hkT hik
        go_wp2_with (refine wpList_load_mid (by rfl) 24 _ (by rfl) b (off + i * 3) (by rfl) [.string k.name, .string k.text, .slice a2 k.kids.length c2] _ HKC.out Tryz.underlying24 rfl (by kernel_rfl) ?_)
        refine HM.out.mono ?_
        rintro e W1 ⟨⟨q, rfl⟩, hb⟩
        have X1 := Lib.hid (XR.out.later hb)
        clear hb
        go_wp2_with fail
        go_roundg (ks.length - (i + 1))
        case measure => omega
        case rel => exact ⟨i + 1, _, by omega, Nat.le_refl _, rfl, by go_num, X1.out⟩
      · go_wp2_with fail
        go_ret
        exact ⟨⟨_, rfl⟩, XR.out.below⟩
    · have hiz : ¬ (i : Int) < (ks.length : Int) := by omega
      go_wp2_with fail
      go_ret
      exact ⟨⟨_, rfl⟩, XR.out.below⟩
end Go.Proofs.YtgmgghbocidibaaGreatDoor

/-
  ELEMENTS whose kids lie in rows of their own, apart from one another: what may be spoilt one by one.
-/
namespace Go.Proofs.YtgmgghbocidibaaGreatDoor
open Go.RowKit Go.Lib

mutual
/-- a tree whose kids lie in blocks from lo to hi, each kid's apart from the others' -/
def SepT (w : World) : Tree → Nat → Nat → Value → Prop
  | .node n t ks, lo, hi, z => n.size ≤ maxRead ∧ t.size ≤ maxRead ∧ ks.length ≤ 2513169434843 ∧ ∃ a c, z = .slice a ks.length c ∧ (ks = [] ∨ ∃ g cur, a = some ⟨g, 0, none⟩ ∧ lo ≤ g ∧ g < hi ∧ w.heap[g]? = some (.cells cur 24 (0, 0)) ∧ SepKs w g ks lo hi cur.toList)
def SepKs (w : World) (g : Nat) : List Tree → Nat → Nat → List Value → Prop
  | [], _, _, _ => True
  | k :: ks, lo, hi, xs => ∃ z r l m, xs = .string k.name :: .string k.text :: z :: r ∧ lo ≤ l ∧ l ≤ m ∧ m ≤ hi ∧ (g < l ∨ m ≤ g) ∧ SepT w k l m z ∧ SepKs w g ks m hi r
end
mutual
theorem SepT.kept {w w' : World} : ∀ (t : Tree) (lo hi : Nat) (z : Value), (∀ b, lo ≤ b → b < hi → w'.heap[b]? = w.heap[b]?) → SepT w t lo hi z → SepT w' t lo hi z
  | .node n t ks, lo, hi, z, hb, h => by
    unfold SepT at *
    obtain ⟨h1, h2, h3, a, c, h4, h5⟩ := h
    refine ⟨h1, h2, h3, a, c, h4, ?_⟩
    rcases h5 with h5 | ⟨g, cur, h5, h6, h7, h8, h9⟩
    · exact .inl h5
    · exact .inr ⟨g, cur, h5, h6, h7, (hb g h6 h7).trans h8, SepKs.kept ks g lo hi cur.toList (fun b h1 h2 _ => hb b h1 h2) h9⟩
theorem SepKs.kept {w w' : World} : ∀ (ks : List Tree) (g lo hi : Nat) (xs : List Value), (∀ b, lo ≤ b → b < hi → b ≠ g → w'.heap[b]? = w.heap[b]?) → SepKs w g ks lo hi xs → SepKs w' g ks lo hi xs
  | [], _, _, _, _, _, _ => by unfold SepKs; trivial
  | k :: ks, g, lo, hi, xs, hb, h => by
    unfold SepKs at *
    obtain ⟨z, r, l, m, h1, h2, h3, h4, h5, h6, h7⟩ := h
    exact ⟨z, r, l, m, h1, h2, h3, h4, h5, SepT.kept k l m z (fun b hl hm => hb b (by omega) (by omega) (by omega)) h6, SepKs.kept ks g m hi r (fun b hl hm hg => hb b (by omega) hm hg) h7⟩
end
theorem SepKs.low {w : World} {g : Nat} : ∀ {ks : List Tree} {lo lo' hi : Nat} {xs : List Value}, lo' ≤ lo → SepKs w g ks lo hi xs → SepKs w g ks lo' hi xs
  | [], _, _, _, _, _, _ => by unfold SepKs; trivial
  | k :: ks, lo, lo', hi, xs, hb, h => by
    unfold SepKs at *
    obtain ⟨z, r, l, m, h1, h2, h3, h4, h5, h6, h7⟩ := h
    exact ⟨z, r, l, m, h1, by omega, h3, h4, h5, h6, h7⟩
theorem SepKs.high {w : World} {g : Nat} : ∀ {ks : List Tree} {lo hi hi' : Nat} {xs : List Value}, hi ≤ hi' → SepKs w g ks lo hi xs → SepKs w g ks lo hi' xs
  | [], _, _, _, _, _, _ => by unfold SepKs; trivial
  | k :: ks, lo, hi, hi', xs, hb, h => by
    unfold SepKs at *
    obtain ⟨z, r, l, m, h1, h2, h3, h4, h5, h6, h7⟩ := h
    exact ⟨z, r, l, m, h1, h2, h3, by omega, h5, h6, SepKs.high hb h7⟩
theorem SepT.wide {w : World} {t : Tree} {lo lo' hi hi' : Nat} {z : Value} (hl : lo' ≤ lo) (hh : hi ≤ hi') (h : SepT w t lo hi z) : SepT w t lo' hi' z := by
  cases t with
  | node n t ks =>
    unfold SepT at *
    obtain ⟨h1, h2, h3, a, c, h4, h5⟩ := h
    refine ⟨h1, h2, h3, a, c, h4, ?_⟩
    rcases h5 with h5 | ⟨g, cur, h5, h6, h7, h8, h9⟩
    · exact .inl h5
    · exact .inr ⟨g, cur, h5, by omega, by omega, h8, (h9.low hl).high hh⟩
theorem SepKs.more {w : World} {g : Nat} (ys : List Value) : ∀ {ks : List Tree} {lo hi : Nat} {xs : List Value}, SepKs w g ks lo hi xs → SepKs w g ks lo hi (xs ++ ys)
  | [], _, _, _, _ => by unfold SepKs; trivial
  | k :: ks, lo, hi, xs, h => by
    unfold SepKs at *
    obtain ⟨z, r, l, m, h1, h2, h3, h4, h5, h6, h7⟩ := h
    exact ⟨z, r ++ ys, l, m, by rw [h1]; rfl, h2, h3, h4, h5, h6, SepKs.more ys h7⟩
/-- the row is another block -/
theorem SepKs.moved {w : World} {g g' : Nat} : ∀ {ks : List Tree} {lo hi : Nat} {xs : List Value}, (g' < lo ∨ hi ≤ g') → SepKs w g ks lo hi xs → SepKs w g' ks lo hi xs
  | [], _, _, _, _, _ => by unfold SepKs; trivial
  | k :: ks, lo, hi, xs, hg, h => by
    unfold SepKs at *
    obtain ⟨z, r, l, m, h1, h2, h3, h4, h5, h6, h7⟩ := h
    exact ⟨z, r, l, m, h1, h2, h3, h4, by omega, h6, SepKs.moved (by omega) h7⟩
theorem SepKs.snoc {w : World} {g : Nat} {k : Tree} {z : Value} {l m : Nat} : ∀ {ks : List Tree} {lo mid hi : Nat} {xs : List Value}, SepKs w g ks lo mid xs → lo ≤ mid → xs.length = ks.length * 3 → mid ≤ l → l ≤ m → m ≤ hi → (g < l ∨ m ≤ g) → SepT w k l m z → SepKs w g (ks ++ [k]) lo hi (xs ++ [.string k.name, .string k.text, z])
  | [], lo, mid, hi, xs, _, h0, hx, h1, h2, h3, h4, h5 => by
    obtain rfl := List.eq_nil_of_length_eq_zero (l := xs) (by simpa using hx)
    rw [List.nil_append, List.nil_append]
    unfold SepKs
    exact ⟨z, [], l, m, rfl, by omega, h2, h3, h4, h5, by unfold SepKs; trivial⟩
  | k' :: ks, lo, mid, hi, xs, h, h0, hx, h1, h2, h3, h4, h5 => by
    rw [List.cons_append]
    unfold SepKs at *
    obtain ⟨z', r, l', m', e, q1, q2, q3, q4, q5, q6⟩ := h
    refine ⟨z', r ++ [.string k.name, .string k.text, z], l', m', by rw [e]; rfl, q1, q2, by omega, q4, q5, SepKs.snoc q6 q3 ?_ h1 h2 h3 h4 h5⟩
    rw [e] at hx
    simp only [List.length_cons] at hx
    omega
mutual
theorem SepT.to_in {w : World} : ∀ (t : Tree) (lo hi : Nat) (z : Value), SepT w t lo hi z → TreeIn w t (.string t.name) (.string t.text) z
  | .node n t ks, lo, hi, z, h => by
    unfold SepT at h
    unfold TreeIn
    obtain ⟨h1, h2, h3, a, c, h4, h5⟩ := h
    refine ⟨rfl, rfl, h1, h2, h3, a, c, h4, ?_⟩
    rcases h5 with rfl | ⟨g, cur, rfl, h6, h7, h8, h9⟩
    · unfold KidsIn; trivial
    · refine SepKs.to_in ks g lo hi cur.toList 0 h9 (fun j u hj => ?_)
      rw [cell_of_heap h8, ← Array.getElem?_toList]
      simpa using hj
theorem SepKs.to_in {w : World} : ∀ (ks : List Tree) (g lo hi : Nat) (xs : List Value) (i : Nat), SepKs w g ks lo hi xs → (∀ j u, xs[j]? = some u → w.cell? ⟨g, i * 3 + j, none⟩ = some u) → KidsIn w ks (some ⟨g, 0, none⟩) i
  | [], _, _, _, _, _, _, _ => by unfold KidsIn; trivial
  | k :: ks, g, lo, hi, xs, i, h, hc => by
    unfold SepKs at h
    unfold KidsIn
    obtain ⟨z, r, l, m, rfl, q1, q2, q3, q4, q5, q6⟩ := h
    refine ⟨⟨g, 0, _, _, z, rfl, by rw [Nat.zero_add]; exact hc 0 _ rfl, by rw [Nat.zero_add]; exact hc 1 _ rfl, by rw [Nat.zero_add]; exact hc 2 _ rfl, SepT.to_in k l m z q5⟩, SepKs.to_in ks g m hi r (i + 1) q6 (fun j u hj => ?_)⟩
    have := hc (j + 3) u (by simpa using hj)
    rw [show (i + 1) * 3 + j = i * 3 + (j + 3) from by omega]
    exact this
end
end Go.Proofs.YtgmgghbocidibaaGreatDoor

/-
  storehouselaw15.spoil: only the element's own rows are written to.
-/
namespace Go.Proofs.YtgmgghbocidibaaGreatDoor
open Go.RowKit Go.Lib

theorem SepT.form {w : World} {t : Tree} {lo hi : Nat} {z : Value} (h : SepT w t lo hi z) : ∃ a c, z = .slice a t.kids.length c := by
  obtain ⟨_, _, _, _, _, a, c, e, _⟩ := (SepT.to_in _ _ _ _ h).cells
  exact ⟨a, c, e⟩
/-- rows that are being spoilt, up to i -/
structure SpAt (w W : World) (lo hi bx g : Nat) (es : Array Value) (ks : List Tree) (i : Nat) : Prop where
  chg : Chg w W (fun k => lo ≤ k ∧ k < hi)
  box : W.heap[bx]? = some (.cells es 24 (0, 0))
  sep : ∃ cur mid, W.heap[g]? = some (.cells cur 24 (0, 0)) ∧ lo ≤ mid ∧ SepKs W g (ks.drop i) mid hi (cur.toList.drop (i * 3))
theorem SpAt.later {w W W' : World} {lo hi bx g : Nat} {es : Array Value} {ks : List Tree} {i : Nat} (h : SpAt w W lo hi bx g es ks i) (hs : hi ≤ w.heap.size) (hb : Below W.heap.size W W') : SpAt w W' lo hi bx g es ks i := by
  obtain ⟨cur, mid, h1, h2, h3⟩ := h.sep
  have hsz := h.chg.size
  exact ⟨h.chg.below_on hb, (hb.block _ (Array.getElem?_eq_some_iff.1 h.box).1).trans h.box, cur, mid, (hb.block _ (Array.getElem?_eq_some_iff.1 h1).1).trans h1, h2, SepKs.kept _ _ _ _ _ (fun b _ hlt _ => hb.block b (by omega)) h3⟩
/-- .. and behind a kid's spoiling -/
structure SpB (w W : World) (lo hi bx g : Nat) (es : Array Value) (ks : List Tree) (i : Nat) : Prop where
  chg : Chg w W (fun k => lo ≤ k ∧ k < hi)
  box : W.heap[bx]? = some (.cells es 24 (0, 0))
  sep : ∃ cur mid, W.heap[g]? = some (.cells cur 24 (0, 0)) ∧ lo ≤ mid ∧ i * 3 + 3 ≤ cur.size ∧ SepKs W g (ks.drop (i + 1)) mid hi (cur.toList.drop (i * 3 + 3))
theorem SpAt.kid {w W : World} {lo hi bx g : Nat} {es : Array Value} {ks : List Tree} {i : Nat} (h : SpAt w W lo hi bx g es ks i) (hs : hi ≤ w.heap.size) (hx : hi ≤ bx) {k : Tree} (hk : ks[i]? = some k) :
    ∃ a c l m, W.rangeAt g (i * 3) [.string k.name, .string k.text, .slice a k.kids.length c] ∧ m ≤ W.heap.size ∧ SepT W k l m (.slice a k.kids.length c) ∧ ∀ W1, Chg W W1 (fun q => l ≤ q ∧ q < m) → SpB w W1 lo hi bx g es ks i := by
  obtain ⟨cur, mid, h1, h2, h3⟩ := h.sep
  have hsz := h.chg.size
  have hlt := (List.getElem?_eq_some_iff.1 hk).1
  rw [List.drop_eq_getElem_cons hlt, (List.getElem?_eq_some_iff.1 hk).2] at h3
  unfold SepKs at h3
  obtain ⟨z, r, l, m, q1, q2, q3, q4, q5, q6, q7⟩ := h3
  obtain ⟨a, c, rfl⟩ := q6.form
  have hc : ∀ j v, (cur.toList.drop (i * 3))[j]? = some v → cur[i * 3 + j]? = some v := fun j v hj => by
    rw [List.getElem?_drop, Array.getElem?_toList] at hj
    exact hj
  rw [q1] at hc
  refine ⟨a, c, l, m, range_of_heap h1 fun j v hj => ?_, by omega, q6, fun W1 hW => ?_⟩
  · rcases j with _ | _ | _ | j
    · exact hc 0 v hj
    · exact hc 1 v hj
    · exact hc 2 v hj
    · simp at hj
  · have hgW := (Array.getElem?_eq_some_iff.1 h1).1
    refine ⟨h.chg.trans (hW.mono fun q _ hq => ⟨by omega, by omega⟩), (hW.block _ (Array.getElem?_eq_some_iff.1 h.box).1 (by omega)).trans h.box, cur, m, (hW.block _ hgW (by omega)).trans h1, by omega, ?_, ?_⟩
    · have h4 := congrArg List.length q1
      simp only [List.length_drop, Array.length_toList, List.length_cons] at h4
      omega
    · have h4 : cur.toList.drop (i * 3 + 3) = r := by rw [← List.drop_drop, q1]; rfl
      rw [h4]
      exact SepKs.kept _ _ _ _ _ (fun b hb _ _ => hW.block b (by omega) (by omega)) q7
theorem partSet_drop {old : Array Value} {o : Nat} {vs : List Value} (h : o + vs.length ≤ old.size) : (partSet old o vs).toList.drop (o + vs.length) = old.toList.drop (o + vs.length) := by
  unfold partSet
  have hl : (old.toList.take o ++ vs).length = o + vs.length := by rw [List.length_append, List.length_take, Array.length_toList]; omega
  show ((old.toList.take o ++ vs) ++ old.toList.drop (o + vs.length)).drop (o + vs.length) = _
  rw [← hl, List.drop_left]
theorem SpB.put {w W : World} {lo hi bx g : Nat} {es : Array Value} {ks : List Tree} {i : Nat} (h : SpB w W lo hi bx g es ks i) (h1 : lo ≤ g) (h2 : g < hi) (hx : hi ≤ bx) {vs : List Value} (hv : vs.length = 3) {cur : Array Value} (hc : W.heap[g]? = some (.cells cur 24 (0, 0))) :
    SpAt w (W.setRow g (partSet cur (i * 3) vs)) lo hi bx g es ks (i + 1) := by
  obtain ⟨cur', mid, q1, q2, q3, q4⟩ := h.sep
  obtain rfl : cur = cur' := by
    rw [hc] at q1
    injection q1 with q1
    injection q1 with q1 _ _
  refine ⟨h.chg.setRow_on _ ⟨h1, h2⟩, (setRow_other _ _ _ _ (by omega)).trans h.box, _, mid, setRow_heap _ _ _ _ _ _ hc, q2, ?_⟩
  rw [show (i + 1) * 3 = i * 3 + vs.length by omega, partSet_drop (by omega), hv]
  exact SepKs.kept _ _ _ _ _ (fun b _ _ hb => setRow_other _ _ _ _ hb) q4
theorem SpB.cur {w W : World} {lo hi bx g : Nat} {es : Array Value} {ks : List Tree} {i : Nat} (h : SpB w W lo hi bx g es ks i) : ∃ cur, W.heap[g]? = some (.cells cur 24 (0, 0)) ∧ i * 3 + 3 ≤ cur.size := by
  obtain ⟨cur', mid, q1, q2, q3, q4⟩ := h.sep
  exact ⟨cur', q1, q3⟩
def SpoilC (t : Tree) : Prop := ∀ (a : Option Addr) (c lo hi : Nat) (w : World), SepT w t lo hi (.slice a t.kids.length c) → hi ≤ w.heap.size →
  Calls Tryz.prog 21 #[.agg (elC t a c)] w fun e w' => (∃ v, e = .returned v) ∧ Chg w w' (fun k => lo ≤ k ∧ k < hi)

set_option maxHeartbeats 4000000 in
set_option maxRecDepth 100000 in
theorem spoil_any : ∀ t, SpoilC t := by
  apply treeInd
  intro n t ks ih a c lo hi w hT hhi
  unfold SepT at hT
  obtain ⟨hn, ht, hkl, a', c', he, hK⟩ := hT
  simp only [Tree.kids] at he
  injection he with e1 _ e3
  subst e1 e3
  have HIH := Lib.hid ih
  unfold elC
  simp only [Tree.name, Tree.text, Tree.kids]
  obtain ⟨W0, hw0⟩ : ∃ W0, w.alloc (.cells #[.string n, .string t, .slice a ks.length c] 24) = W0 := ⟨_, rfl⟩
  have B0 : Below w.heap.size w W0 := by rw [← hw0]; exact below_alloc (Below.refl _ _) (Nat.le_refl _) _
  have X0 : Hid (WBox w W0 #[.string n, .string t, .slice a ks.length c]) := ⟨B0, by rw [← hw0]; exact heap_alloc_new _ _⟩
  clear ih
  go_enter Tryz.func21, Tryz.ntmps21
  go_upto_region 1 with (fail)
  clear hw0
  go_wp2_with fail
  rcases hK with rfl | ⟨g, cur, rfl, hg1, hg2, hg3, hg4⟩
  · have c2 : W0.cell? ⟨w.heap.size, 2, none⟩ = some (.slice a 0 c) := cell_at X0.out.box rfl
    go_loopg [2] 0 (fun gg s2 wr => s2 = .int .i64 0 ∧ wr = W0)
    case atStart => exact ⟨rfl, rfl⟩
    case round =>
      obtain ⟨rfl, rfl⟩ := hrel
      go_wp2_with fail
      go_end0
      exact ⟨⟨_, rfl⟩, Chg.of_below X0.out.below⟩
  · have hg0 : g < w.heap.size := by omega
    have HS0 : Hid (SpAt w W0 lo hi w.heap.size g #[.string n, .string t, .slice (some ⟨g, 0, none⟩) ks.length c] ks 0) :=
      ⟨Chg.of_below B0, X0.out.box, cur, lo, (B0.block _ hg0).trans hg3, Nat.le_refl _, SepKs.kept _ _ _ _ _ (fun b _ hb _ => B0.block b (by omega)) hg4⟩
    clear hg3 hg4 B0 X0
    go_loopg [2] ks.length (fun gg s2 wr => ∃ i : Nat, i ≤ ks.length ∧ ks.length - i ≤ gg ∧ s2 = .int .i64 i ∧ Hid (SpAt w wr lo hi w.heap.size g #[.string n, .string t, .slice (some ⟨g, 0, none⟩) ks.length c] ks i))
    case atStart => exact ⟨0, Nat.zero_le _, by omega, rfl, HS0.out⟩
    case round =>
      obtain ⟨i, hin, hgg, rfl, HS⟩ := hrel
      have c2 : wr.cell? ⟨w.heap.size, 2, none⟩ = some (.slice (some ⟨g, 0, none⟩) ks.length c) := cell_at HS.out.box rfl
      by_cases hlt : i < ks.length
      · have hiz : (i : Int) < (ks.length : Int) := by omega
        obtain ⟨k, hik⟩ : ∃ k, ks[i]? = some k := ⟨_, List.getElem?_eq_getElem hlt⟩
        obtain ⟨a2, c3, l, m, hrg, hm, hsk, hnext⟩ := HS.out.kid hhi hhi hik
        have HKC := Lib.hid hrg
        have HN := Lib.hid hnext
        have HSP := Lib.hid (HIH.out k (List.mem_of_getElem? hik) a2 c3 l m wr hsk hm)
        clear hrg hnext hsk hik
        go_wp2_with (refine wpList_load_mid (by rfl) 24 _ (by rfl) g (i * 3) (by rfl) [.string k.name, .string k.text, .slice a2 k.kids.length c3] _ HKC.out Tryz.underlying24 rfl (by kernel_rfl) ?_)
        refine HSP.out.mono ?_
        rintro e W1 ⟨⟨v1, rfl⟩, hc1⟩
        have HB := Lib.hid (HN.out W1 hc1)
        obtain ⟨cur1, hcu, hsz⟩ := HB.out.cur
        have HCU := Lib.hid hcu
        have c2 : W1.cell? ⟨w.heap.size, 2, none⟩ = some (.slice (some ⟨g, 0, none⟩) ks.length c) := cell_at HB.out.box rfl
        clear hc1 HN HSP HS HKC hcu
        go_wp2_with (refine wpList_store_partN (by rfl) 24 _ _ (by rfl) g (i * 3) [.string ⟨#[63]⟩, .string ⟨#[]⟩, .slice none 0 0] (by rfl) (by rfl) 24 cur1 (by exact HCU.out) (by exact hsz) (by kernel_rfl) (by rfl) (fun W => SpAt w W lo hi w.heap.size g #[.string n, .string t, .slice (some ⟨g, 0, none⟩) ks.length c] ks (i + 1)) (by exact HB.out.put hg1 hg2 hhi rfl HCU.out) ?_; clear HB HCU c2; rintro W2 hW2)
        have HW2 := Lib.hid hW2
        clear hW2
        go_wp2_with fail
        go_roundg (ks.length - (i + 1))
        case measure => omega
        case rel => exact ⟨i + 1, by omega, Nat.le_refl _, by go_num, HW2.out⟩
      · obtain rfl : i = ks.length := by omega
        have HC := Lib.hid HS.out.chg
        go_wp2_with fail
        go_end0
        exact ⟨⟨_, rfl⟩, HC.out⟩
end Go.Proofs.YtgmgghbocidibaaGreatDoor
