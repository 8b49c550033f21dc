/-
  law XmlWrites: an element is written as the document says; two are the same as it says; kids are found as it says.
-/
import Derived.Test.YtgmgghbocidibaaGreatDoorSm37
import Derived.Test.YtgmgghbocidibaaGreatDoorSm40
import Derived.Test.YtgmgghbocidibaaGreatDoorSm41
namespace Go.Proofs.YtgmgghbocidibaaGreatDoor
open Go.RowKit Go.Lib Go.PlainAid

mutual
theorem sameX_symm : ∀ (t t2 : Tree), sameX t t2 = sameX t2 t
  | .node n t ks, .node n2 t2 ks2 => by
    unfold sameX
    rw [sameKs_symm ks ks2, Bool.beq_comm (a := n.data.toList), Bool.beq_comm (a := t.data.toList)]
theorem sameKs_symm : ∀ (ks ks2 : List Tree), sameKs ks ks2 = sameKs ks2 ks
  | [], [] => rfl
  | [], _ :: _ => rfl
  | _ :: _, [] => rfl
  | k :: ks, k2 :: ks2 => by
    unfold sameKs
    rw [sameX_symm k k2, sameKs_symm ks ks2]
end
/-- the elements that were handed in, and the copy -/
structure LwAt (w W : World) (gx : Nat) (es es2 esx : Array Value) : Prop where
  box : Box2 w W es es2
  x : W.heap[gx]? = some (.cells esx 24 (0, 0))
theorem LwAt.later {w W W' : World} {gx : Nat} {es es2 esx : Array Value} (h : LwAt w W gx es es2 esx) (hb : Below W.heap.size W W') : LwAt w W' gx es es2 esx :=
  ⟨h.box.later hb, (hb.block _ (Array.getElem?_eq_some_iff.1 h.x).1).trans h.x⟩
/-- what was found, up to i spoilt; the document's -/
structure LpAt (wF W : World) (hi gl gm : Nat) (cur curm : Array Value) (m : List Tree) (i : Nat) : Prop where
  below : Below wF.heap.size wF W
  lrow : W.heap[gl]? = some (.cells cur 24 (0, 0))
  mrow : W.heap[gm]? = some (.cells curm 24 (0, 0))
  size : hi ≤ W.heap.size
  sep : ∃ mid, wF.heap.size ≤ mid ∧ SepKs W gl (m.drop i) mid hi (cur.toList.drop (i * 3))
theorem LpAt.later {wF W W' : World} {hi gl gm : Nat} {cur curm : Array Value} {m : List Tree} {i : Nat} (h : LpAt wF W hi gl gm cur curm m i) (hb : Below W.heap.size W W') : LpAt wF W' hi gl gm cur curm m i := by
  obtain ⟨mid, h1, h2⟩ := h.sep
  have hsz := h.size
  exact ⟨h.below.trans (hb.mono h.below.size), (hb.block _ (Array.getElem?_eq_some_iff.1 h.lrow).1).trans h.lrow, (hb.block _ (Array.getElem?_eq_some_iff.1 h.mrow).1).trans h.mrow, Nat.le_trans h.size hb.size, mid, h1, SepKs.kept _ _ _ _ _ (fun b _ hlt _ => hb.block b (by omega)) h2⟩
/-- the kid that comes now -/
structure KdAt (wF W : World) (hi gl gm : Nat) (cur curm : Array Value) (m : List Tree) (i : Nat) (k : Tree) (a : Option Addr) (c l u : Nat) : Prop where
  below : Below wF.heap.size wF W
  lrow : W.heap[gl]? = some (.cells cur 24 (0, 0))
  mrow : W.heap[gm]? = some (.cells curm 24 (0, 0))
  size : hi ≤ W.heap.size
  far : hi ≤ gm
  range : W.rangeAt gl (i * 3) [.string k.name, .string k.text, .slice a k.kids.length c]
  low : wF.heap.size ≤ l
  mid : l ≤ u
  high : u ≤ hi
  own : gl < l ∨ u ≤ gl
  tree : SepT W k l u (.slice a k.kids.length c)
  rest : SepKs W gl (m.drop (i + 1)) u hi (cur.toList.drop (i * 3 + 3))
theorem LpAt.kid {wF W : World} {hi gl gm : Nat} {cur curm : Array Value} {m : List Tree} {i : Nat} (h : LpAt wF W hi gl gm cur curm m i) (hx : hi ≤ gm) {k : Tree} (hk : m[i]? = some k) :
    ∃ a c l u, KdAt wF W hi gl gm cur curm m i k a c l u := by
  obtain ⟨mid, h2, h3⟩ := h.sep
  have hlt := (List.getElem?_eq_some_iff.1 hk).1
  rw [List.drop_eq_getElem_cons hlt, (List.getElem?_eq_some_iff.1 hk).2] at h3
  unfold SepKs at h3
  obtain ⟨z, r, l, u, q1, q2, q3, q4, q5, q6, q7⟩ := h3
  obtain ⟨a, c, rfl⟩ := q6.form
  have hc : ∀ j v, (cur.toList.drop (i * 3))[j]? = some v → cur[i * 3 + j]? = some v := fun j v hj => by
    rw [List.getElem?_drop, Array.getElem?_toList] at hj
    exact hj
  rw [q1] at hc
  refine ⟨a, c, l, u, h.below, h.lrow, h.mrow, h.size, hx, range_of_heap h.lrow fun j v hj => ?_, by omega, q3, q4, q5, q6, ?_⟩
  · rcases j with _ | _ | _ | j
    · exact hc 0 v hj
    · exact hc 1 v hj
    · exact hc 2 v hj
    · simp at hj
  · have h4 : cur.toList.drop (i * 3 + 3) = r := by rw [← List.drop_drop, q1]; rfl
    rw [h4]
    exact q7
theorem KdAt.later {wF W W' : World} {hi gl gm : Nat} {cur curm : Array Value} {m : List Tree} {i : Nat} {k : Tree} {a : Option Addr} {c l u : Nat} (h : KdAt wF W hi gl gm cur curm m i k a c l u) (hb : Below W.heap.size W W') : KdAt wF W' hi gl gm cur curm m i k a c l u := by
  have hsz := h.size
  have hu := h.high
  exact ⟨h.below.trans (hb.mono h.below.size), (hb.block _ (Array.getElem?_eq_some_iff.1 h.lrow).1).trans h.lrow, (hb.block _ (Array.getElem?_eq_some_iff.1 h.mrow).1).trans h.mrow, Nat.le_trans h.size hb.size, h.far, fun j v hj => cell_later hb (h.range j v hj), h.low, h.mid, h.high, h.own,
    SepT.kept _ _ _ _ (fun b _ hlt => hb.block b (by omega)) h.tree, SepKs.kept _ _ _ _ _ (fun b _ hlt _ => hb.block b (by omega)) h.rest⟩
/-- .. and is spoilt -/
theorem KdAt.next {wF W W1 : World} {hi gl gm : Nat} {cur curm : Array Value} {m : List Tree} {i : Nat} {k : Tree} {a : Option Addr} {c l u : Nat} (h : KdAt wF W hi gl gm cur curm m i k a c l u) (hW : Chg W W1 (fun q => l ≤ q ∧ q < u)) : LpAt wF W1 hi gl gm cur curm m (i + 1) := by
  have hsz := h.size
  have hu := h.high
  have hl := h.low
  have hf := h.far
  have ho := h.own
  refine ⟨h.below.trans (hW.below h.below.size fun q hq => by omega), (hW.block _ (Array.getElem?_eq_some_iff.1 h.lrow).1 (by omega)).trans h.lrow, (hW.block _ (Array.getElem?_eq_some_iff.1 h.mrow).1 (by omega)).trans h.mrow, Nat.le_trans h.size hW.size, u, by have := h.mid; omega, ?_⟩
  rw [show (i + 1) * 3 = i * 3 + 3 by omega]
  exact SepKs.kept _ _ _ _ _ (fun b hb hlt _ => hW.block b (by omega) (by omega)) h.rest

set_option maxHeartbeats 8000000 in
set_option maxRecDepth 100000 in
theorem writes_law {w : World} (hG : GlobX w) (t t2 : Tree) (a a2 : Option Addr) (c c2 : Nat) (hT : ElemIn w t a c) (hT2 : ElemIn w t2 a2 c2) (hS : okT t = true → SmT t) (nm : Bs) :
    Calls Tryz.prog 6 #[.agg (elC t a c), .agg (elC t2 a2 c2), .string ⟨nm.toArray⟩] w fun e w' => e = .returned (.bool true) ∧ Below w.heap.size w w' := by
  have HG := Lib.hid hG
  have HT := Lib.hid hT
  have HT2 := Lib.hid hT2
  have HS := Lib.hid hS
  clear hG hT hT2 hS
  obtain ⟨W0, hw0⟩ : ∃ W0, (w.alloc (.cells #[.string t.name, .string t.text, .slice a t.kids.length c] 24)).alloc (.cells #[.string t2.name, .string t2.text, .slice a2 t2.kids.length c2] 24) = W0 := ⟨_, rfl⟩
  have X0 : Hid (Box2 w W0 (elC t a c) (elC t2 a2 c2)) := by
    refine ⟨?_, ?_, ?_⟩
    · rw [← hw0]; exact below_alloc (below_alloc (Below.refl _ _) (Nat.le_refl _) _) (Nat.le_refl _) _
    · rw [← hw0]; exact heap_old _ (heap_alloc_new _ _)
    · rw [← hw0]; exact heap_at1 _ _ _
  have HEX := Lib.hid (ex_walk (HG.out.later X0.out.below))
  rw [show Value.agg (elC t a c) = .agg #[.string t.name, .string t.text, .slice a t.kids.length c] from rfl, show Value.agg (elC t2 a2 c2) = .agg #[.string t2.name, .string t2.text, .slice a2 t2.kids.length c2] from rfl]
  go_enter Tryz.func6, Tryz.ntmps6
  go_wp2_with fail
  refine HEX.out.mono ?_
  rintro e W1 ⟨rfl, hb1⟩
  have X1 := Lib.hid (X0.out.later hb1)
  clear hb1 X0 HEX hw0
  have HW := Lib.hid (write_prog t a c W1 (HT.out.later X1.out.below) (HG.out.later X1.out.below).c HS.out)
  obtain ⟨l, n, hl⟩ : ∃ l n, wOut t = (l, n) := ⟨_, _, rfl⟩
  rw [hl] at HW
  go_wp2_with (refine wpList_load_row (by rfl) 24 _ (by rfl) w.heap.size (by rfl) 24 (elC t a c) (0, 0) _ (by exact X1.out.one) Tryz.underlying24 rfl (by kernel_rfl) ?_)
  refine HW.out.mono ?_
  rintro e W2 ⟨rfl, hb2⟩
  have X2 := Lib.hid (X1.out.later hb2)
  clear hb2 X1 HW
  have HW := Lib.hid (rWrite_any t a c W2 (HT.out.later X2.out.below) HS.out)
  rw [hl] at HW
  clear hl
  go_wp2_with (refine wpList_load_row (by rfl) 24 _ (by rfl) w.heap.size (by rfl) 24 (elC t a c) (0, 0) _ (by exact X2.out.one) Tryz.underlying24 rfl (by kernel_rfl) ?_)
  refine HW.out.mono ?_
  rintro e W3 ⟨rfl, hb3⟩
  have X3 := Lib.hid (X2.out.later hb3)
  clear hb3 X2 HW
  have HM := Lib.hid (many_any t a c W3 (HT.out.later X3.out.below))
  go_wp2_with (refine wpList_load_row (by rfl) 24 _ (by rfl) w.heap.size (by rfl) 24 (elC t a c) (0, 0) _ (by exact X3.out.one) Tryz.underlying24 rfl (by kernel_rfl) ?_)
  refine HM.out.mono ?_
  rintro e W4 ⟨⟨q, rfl⟩, hb4⟩
  have X4 := Lib.hid (X3.out.later hb4)
  clear hb4 X3 HM
  by_cases hq : 2000 < q
  · go_wp2_with fail
    go_ret
    exact ⟨rfl, X4.out.below⟩
  have HM := Lib.hid (many_any t2 a2 c2 W4 (HT2.out.later X4.out.below))
  go_wp2_with (refine wpList_wanted (by go_simp) ?_; refine wp_load_row 24 _ (by rfl) (w.heap.size + 1) (by rfl) 24 (elC t2 a2 c2) (0, 0) _ (by exact X4.out.two) Tryz.underlying24 rfl (by kernel_rfl) ?_)
  refine HM.out.mono ?_
  rintro e W5 ⟨⟨q2, rfl⟩, hb5⟩
  have X5 := Lib.hid (X4.out.later hb5)
  clear hb5 X4 HM
  by_cases hq2 : 2000 < q2
  · go_wp2_with fail
    go_ret
    exact ⟨rfl, X5.out.below⟩
  have HC := Lib.hid (Sep.copied_any t a c W5 (HT.out.later X5.out.below))
  go_wp2_with (refine wpList_load_row (by rfl) 24 _ (by rfl) w.heap.size (by rfl) 24 (elC t a c) (0, 0) _ (by exact X5.out.one) Tryz.underlying24 rfl (by kernel_rfl) ?_)
  refine HC.out.mono ?_
  rintro e W6 ⟨z, rfl, hz, hb6⟩
  obtain ⟨az, cz, rfl, hzi⟩ := hz.form
  have X6 := Lib.hid (X5.out.later hb6)
  have Z6 := Lib.hid hzi
  clear hb6 X5 HC hq hq2 hz hzi
  go_upto_region 9 with (refine wpList_store_rowN (by rfl) 24 _ _ (by rfl) W6.heap.size (elC t az cz) (by rfl) (by rfl) 24 elemZC (by exact heap_alloc_new _ _) (by kernel_rfl) (by rfl) (by kernel_rfl) (fun W => W.heap[W6.heap.size]? = some (.cells (elC t az cz) 24 (0, 0)) ∧ Below W6.heap.size W6 W) (elem_box rfl rfl) ?_; rintro W7 h7)
  have Y7 : Hid (LwAt w W7 W6.heap.size (elC t a c) (elC t2 a2 c2) (elC t az cz)) := ⟨X6.out.later h7.2, h7.1⟩
  have Z7 := Lib.hid (Z6.out.later h7.2)
  clear h7 X6 Z6
  generalize W6.heap.size = gx at *
  obtain ⟨is, his⟩ : ∃ is, (okT t && okT t2 && sameX t t2) = is := ⟨_, rfl⟩
  obtain ⟨ow, how⟩ : ∃ ow, okT t = ow := ⟨_, rfl⟩
  have HIS := Lib.hid his
  have HIS2 : Hid ((okT t2 && okT t && sameX t2 t) = is) := by show _ = _; rw [← his, sameX_symm t2 t, Bool.and_comm (okT t2)]
  have HOW := Lib.hid how
  have HOW2 : Hid ((okT t && okT t && sameX t t) = ow) := by show _ = _; rw [← how, same_refl]; simp
  clear his how
  have HR := Lib.hid (rSame_any t t2 a a2 c c2 W7 (HT.out.later Y7.out.box.below) (HT2.out.later Y7.out.box.below))
  rw [HIS.out] at HR
  go_wp2_with (first
    | (refine wpList_load_row (by rfl) 24 _ (by rfl) w.heap.size (by rfl) 24 (elC t a c) (0, 0) _ (by exact Y7.out.box.one) Tryz.underlying24 rfl (by kernel_rfl) ?_)
    | (refine wpList_load_row (by rfl) 24 _ (by rfl) (w.heap.size + 1) (by rfl) 24 (elC t2 a2 c2) (0, 0) _ (by exact Y7.out.box.two) Tryz.underlying24 rfl (by kernel_rfl) ?_))
  refine HR.out.mono ?_
  rintro e W8 ⟨rfl, hb8⟩
  have Y8 := Lib.hid (Y7.out.later hb8)
  have Z8 := Lib.hid (Z7.out.later hb8)
  clear hb8 Y7 Z7 HR
  have HR := Lib.hid (rSame_any t t a a c c W8 (HT.out.later Y8.out.box.below) (HT.out.later Y8.out.box.below))
  rw [HOW2.out] at HR
  go_wp2_with (refine wpList_load_row (by rfl) 24 _ (by rfl) w.heap.size (by rfl) 24 (elC t a c) (0, 0) _ (by exact Y8.out.box.one) Tryz.underlying24 rfl (by kernel_rfl) ?_)
  refine HR.out.mono ?_
  rintro e wF ⟨rfl, hb9⟩
  have YF := Lib.hid (Y8.out.later hb9)
  have ZF := Lib.hid (Z8.out.later hb9)
  clear hb9 Y8 Z8 HR
  have HF := Lib.hid (Sep.Find_any t nm az cz wF ZF.out)
  go_wp2_with (refine wpList_load_row (by rfl) 24 _ (by rfl) gx (by rfl) 24 (elC t az cz) (0, 0) _ (by exact YF.out.x) Tryz.underlying24 rfl (by kernel_rfl) ?_)
  refine HF.out.mono ?_
  rintro e W10 ⟨v, rfl, ho, hb10⟩
  obtain ⟨xs, ho1, ho2⟩ := ho.row
  have HO := Lib.hid (And.intro ho1 ho2)
  have BF := Lib.hid hb10
  clear ho ho1 ho2 hb10 HF
  have HR := Lib.hid (rFind_any t nm a c w W10 HT.out (YF.out.box.below.trans (BF.out.mono YF.out.box.below.size)))
  go_wp2_with (refine wpList_load_row (by rfl) 24 _ (by rfl) w.heap.size (by rfl) 24 (elC t a c) (0, 0) _ (by exact (YF.out.later BF.out).box.one) Tryz.underlying24 rfl (by kernel_rfl) ?_)
  refine HR.out.mono ?_
  rintro e W11 ⟨vm, news, rfl, hn1, hn2, hb11⟩
  have HN := Lib.hid (And.intro hn1 hn2)
  have B11 := Lib.hid hb11
  clear hn1 hn2 hb11 HR
  obtain ⟨m, hm⟩ : ∃ m, t.kids.filter (namedX nm) = m := ⟨_, rfl⟩
  have HNM : Hid (∀ k ∈ m, k.name.data.toList = nm) := fun k hk => by
    rw [← hm] at hk
    have h1 := (List.mem_filter.1 hk).2
    exact beq_iff_eq.1 h1
  have hml : m.length ≤ 2513169434843 := by
    obtain ⟨_, _, _, _, hkl, _⟩ := HT.out.cells
    rw [← hm]
    exact Nat.le_trans (List.length_filter_le _ _) hkl
  rw [hm] at HO HN
  clear hm
  obtain ⟨al, cl, hv⟩ := own_form' HO.out.1
  obtain ⟨am, cm, hvm⟩ := own_form' HN.out.1
  subst hv hvm
  obtain ⟨gl, gm, cur, curm, HL⟩ : ∃ gl gm cur curm, Hid (0 < m.length → al = some ⟨gl, 0, none⟩ ∧ am = some ⟨gm, 0, none⟩ ∧ W10.heap.size ≤ gm ∧ KidRow w m (curm.toList.take (m.length * 3)) ∧ LpAt wF W11 W10.heap.size gl gm cur curm m 0) := by
    by_cases h0 : 0 < m.length
    · rcases HO.out.1.2 with ⟨_, h1⟩ | ⟨gl, cap, cur, e1, q1, q2, _, _, _, q3⟩
      · omega
      rcases HN.out.1.2 with ⟨_, h1⟩ | ⟨gm, capm, curm, e2, r1, r2, _, _, _, r3⟩
      · omega
      injection e1 with e1 _ _
      injection e2 with e2 _ _
      refine ⟨gl, gm, cur, curm, fun _ => ⟨e1, e2, r1, by rw [r3]; exact HN.out.2, ?_⟩⟩
      have hgl := (Array.getElem?_eq_some_iff.1 q2).1
      refine ⟨BF.out.trans (B11.out.mono BF.out.size), (B11.out.block _ hgl).trans q2, r2, B11.out.size, wF.heap.size, Nat.le_refl _, ?_⟩
      have h3 := (HO.out.2 gl (by rw [e1]; rfl)).more (cur.toList.drop (m.length * 3))
      rw [← q3, List.take_append_drop] at h3
      rw [List.drop_zero, Nat.zero_mul, List.drop_zero]
      exact SepKs.kept _ _ _ _ _ (fun b _ hlt _ => B11.out.block b hlt) h3
    · exact ⟨0, 0, #[], #[], fun h => absurd h h0⟩
  have BR := Lib.hid (BF.out.trans (B11.out.mono BF.out.size))
  clear HO HN BF B11
  obtain ⟨tx, tb, htx⟩ : ∃ tx tb, textX t.kids nm = (tx, tb) := ⟨_, _, rfl⟩
  have HTX := Lib.hid (Text_any t nm az cz W11 (ZF.out.later BR.out))
  rw [htx] at HTX
  go_wp2_with (refine wpList_load_row (by rfl) 24 _ (by rfl) gx (by rfl) 24 (elC t az cz) (0, 0) _ (by exact (YF.out.later BR.out).x) Tryz.underlying24 rfl (by kernel_rfl) ?_)
  refine HTX.out.mono ?_
  rintro e W12 ⟨rfl, hb12⟩
  have BR2 := Lib.hid (BR.out.trans (hb12.mono BR.out.size))
  have HL2 : Hid (0 < m.length → al = some ⟨gl, 0, none⟩ ∧ am = some ⟨gm, 0, none⟩ ∧ W10.heap.size ≤ gm ∧ KidRow w m (curm.toList.take (m.length * 3)) ∧ LpAt wF W12 W10.heap.size gl gm cur curm m 0) := fun h => by
    obtain ⟨q1, q2, q3, q4, q5⟩ := HL.out h
    exact ⟨q1, q2, q3, q4, q5.later hb12⟩
  clear hb12 BR HL HTX
  have HTX := Lib.hid (rText_any t nm a c W12 (HT.out.later (YF.out.later BR2.out).box.below))
  rw [htx] at HTX
  clear htx
  go_wp2_with (refine wpList_load_row (by rfl) 24 _ (by rfl) w.heap.size (by rfl) 24 (elC t a c) (0, 0) _ (by exact (YF.out.later BR2.out).box.one) Tryz.underlying24 rfl (by kernel_rfl) ?_)
  refine HTX.out.mono ?_
  rintro e W13 ⟨rfl, hb13⟩
  have BR := Lib.hid (BR2.out.trans (hb13.mono BR2.out.size))
  have HL : Hid (0 < m.length → al = some ⟨gl, 0, none⟩ ∧ am = some ⟨gm, 0, none⟩ ∧ W10.heap.size ≤ gm ∧ KidRow w m (curm.toList.take (m.length * 3)) ∧ LpAt wF W13 W10.heap.size gl gm cur curm m 0) := fun h => by
    obtain ⟨q1, q2, q3, q4, q5⟩ := HL2.out h
    exact ⟨q1, q2, q3, q4, q5.later hb13⟩
  clear hb13 BR2 HL2 HTX
  have HSA := Lib.hid (Same_prog t t2 az a2 cz c2 W13 (ZF.out.later BR.out) (HT2.out.later (YF.out.later BR.out).box.below) (HG.out.later (YF.out.later BR.out).box.below).c)
  rw [HIS.out] at HSA
  go_wp2_with (first
    | (refine wpList_load_row (by rfl) 24 _ (by rfl) gx (by rfl) 24 (elC t az cz) (0, 0) _ (by exact (YF.out.later BR.out).x) Tryz.underlying24 rfl (by kernel_rfl) ?_)
    | (refine wpList_load_row (by rfl) 24 _ (by rfl) (w.heap.size + 1) (by rfl) 24 (elC t2 a2 c2) (0, 0) _ (by exact (YF.out.later BR.out).box.two) Tryz.underlying24 rfl (by kernel_rfl) ?_))
  refine HSA.out.mono ?_
  rintro e W14 ⟨rfl, hb14⟩
  have BR2 := Lib.hid (BR.out.trans (hb14.mono BR.out.size))
  have HL2 : Hid (0 < m.length → al = some ⟨gl, 0, none⟩ ∧ am = some ⟨gm, 0, none⟩ ∧ W10.heap.size ≤ gm ∧ KidRow w m (curm.toList.take (m.length * 3)) ∧ LpAt wF W14 W10.heap.size gl gm cur curm m 0) := fun h => by
    obtain ⟨q1, q2, q3, q4, q5⟩ := HL.out h
    exact ⟨q1, q2, q3, q4, q5.later hb14⟩
  clear hb14 BR HL HSA
  have HSA := Lib.hid (Same_prog t2 t a2 az c2 cz W14 (HT2.out.later (YF.out.later BR2.out).box.below) (ZF.out.later BR2.out) (HG.out.later (YF.out.later BR2.out).box.below).c)
  rw [HIS2.out] at HSA
  go_wp2_with (first
    | (refine wpList_wanted (by go_simp) ?_; refine wp_load_row 24 _ (by rfl) gx (by rfl) 24 (elC t az cz) (0, 0) _ (by exact (YF.out.later BR2.out).x) Tryz.underlying24 rfl (by kernel_rfl) ?_)
    | (refine wpList_wanted (by go_simp) ?_; refine wp_load_row 24 _ (by rfl) (w.heap.size + 1) (by rfl) 24 (elC t2 a2 c2) (0, 0) _ (by exact (YF.out.later BR2.out).box.two) Tryz.underlying24 rfl (by kernel_rfl) ?_))
  refine HSA.out.mono ?_
  rintro e W15 ⟨rfl, hb15⟩
  have BR := Lib.hid (BR2.out.trans (hb15.mono BR2.out.size))
  have HL : Hid (0 < m.length → al = some ⟨gl, 0, none⟩ ∧ am = some ⟨gm, 0, none⟩ ∧ W10.heap.size ≤ gm ∧ KidRow w m (curm.toList.take (m.length * 3)) ∧ LpAt wF W15 W10.heap.size gl gm cur curm m 0) := fun h => by
    obtain ⟨q1, q2, q3, q4, q5⟩ := HL2.out h
    exact ⟨q1, q2, q3, q4, q5.later hb15⟩
  clear hb15 BR2 HL2 HSA
  have HSA := Lib.hid (Same_prog t t az az cz cz W15 (ZF.out.later BR.out) (ZF.out.later BR.out) (HG.out.later (YF.out.later BR.out).box.below).c)
  rw [HOW2.out] at HSA
  go_wp2_with (refine wpList_wanted (by go_simp) ?_; refine wp_load_row 24 _ (by rfl) gx (by rfl) 24 (elC t az cz) (0, 0) _ (by exact (YF.out.later BR.out).x) Tryz.underlying24 rfl (by kernel_rfl) ?_)
  refine HSA.out.mono ?_
  rintro e W16 ⟨rfl, hb16⟩
  have BR2 := Lib.hid (BR.out.trans (hb16.mono BR.out.size))
  have HL2 : Hid (0 < m.length → al = some ⟨gl, 0, none⟩ ∧ am = some ⟨gm, 0, none⟩ ∧ W10.heap.size ≤ gm ∧ KidRow w m (curm.toList.take (m.length * 3)) ∧ LpAt wF W16 W10.heap.size gl gm cur curm m 0) := fun h => by
    obtain ⟨q1, q2, q3, q4, q5⟩ := HL.out h
    exact ⟨q1, q2, q3, q4, q5.later hb16⟩
  clear hb16 BR HL HSA
  go_wp2_with fail
  go_loopg [21] m.length (fun gg s21 wr => ∃ i : Nat, i ≤ m.length ∧ m.length - i ≤ gg ∧ s21 = .int .i64 i ∧ Hid (Below wF.heap.size wF wr) ∧ Hid (0 < m.length → LpAt wF wr W10.heap.size gl gm cur curm m i))
  case atStart => exact ⟨0, Nat.zero_le _, by omega, rfl, BR2.out, fun h => (HL2.out h).2.2.2.2⟩
  case round =>
    obtain ⟨i, hi, hg, rfl, BR, HR⟩ := hrel
    by_cases hlt : i < m.length
    · have hiz : (i : Int) < (m.length : Int) := by omega
      have h0 : 0 < m.length := by omega
      obtain ⟨rfl, rfl, hgm, hkr, -⟩ := HL2.out h0
      obtain ⟨k, hik⟩ : ∃ k, m[i]? = some k := ⟨_, List.getElem?_eq_getElem hlt⟩
      obtain ⟨ak, ck, lo, hi2, hkd⟩ := (HR.out h0).kid hgm hik
      obtain ⟨bk, dk, q1, q2, q3, q4⟩ := hkr.at_ i k hik
      have HKD := Lib.hid hkd
      have HKW := Lib.hid q4
      have HKN : Hid (k.name.data.toList = nm) := HNM.out k (List.mem_of_getElem? hik)
      have HMR : Hid (∀ W, KdAt wF W W10.heap.size gl gm cur curm m i k ak ck lo hi2 → W.rangeAt gm (i * 3) [.string k.name, .string k.text, .slice bk k.kids.length dk]) := fun W hW => range_of_heap hW.mrow fun j u hu => by
        have hc : ∀ (x : Nat) (u : Value), (curm.toList.take (m.length * 3))[x]? = some u → curm[x]? = some u := fun x u hu => by
          rw [List.getElem?_take] at hu
          split at hu
          · rw [Array.getElem?_toList] at hu; exact hu
          · cases hu
        rcases j with _ | _ | _ | j
        · injection hu with hu; subst hu; exact hc _ _ q1
        · injection hu with hu; subst hu; exact hc _ _ q2
        · injection hu with hu; subst hu; exact hc _ _ q3
        · simp at hu
      clear hkd q1 q2 q3 q4 hik hkr HR h0
      obtain ⟨ok, hok⟩ : ∃ ok, okT k = ok := ⟨_, rfl⟩
      have HS1 := Lib.hid (fun W (hW : KdAt wF W W10.heap.size gl gm cur curm m i k ak ck lo hi2) => rSame_any k k ak bk ck dk W (SepT.to_in _ _ _ _ hW.tree) (HKW.out.later (YF.out.later hW.below).box.below))
      have HS2 := Lib.hid (fun W (hW : KdAt wF W W10.heap.size gl gm cur curm m i k ak ck lo hi2) => rRightE_any k bk dk W (HKW.out.later (YF.out.later hW.below).box.below))
      have hoo : (okT k && okT k && sameX k k) = ok := by rw [← hok, same_refl]; simp
      rw [hoo] at HS1
      rw [hok] at HS2
      clear hok hoo
      have r0 : wr.cell? ⟨gl, i * 3, none⟩ = some (.string k.name) := HKD.out.range 0 _ rfl
      have r1 : wr.cell? ⟨gl, i * 3 + 1, none⟩ = some (.string k.text) := HKD.out.range 1 _ rfl
      have r2 : wr.cell? ⟨gl, i * 3 + 2, none⟩ = some (.slice ak k.kids.length ck) := HKD.out.range 2 _ rfl
      have u0 : wr.cell? ⟨gm, i * 3, none⟩ = some (.string k.name) := HMR.out wr HKD.out 0 _ rfl
      have u1 : wr.cell? ⟨gm, i * 3 + 1, none⟩ = some (.string k.text) := HMR.out wr HKD.out 1 _ rfl
      have u2 : wr.cell? ⟨gm, i * 3 + 2, none⟩ = some (.slice bk k.kids.length dk) := HMR.out wr HKD.out 2 _ rfl
      unfold elC at HS1 HS2
      go_wp2
      go_still_tail 8, (by kernel_rfl)
      change wpList _ _ _ _ _ wr.drew
      obtain ⟨wd, hwd⟩ : ∃ wd, Hid (wr.drew = wd) := ⟨_, rfl⟩
      rw [hwd.out]
      have BD : Hid (Below wr.heap.size wr wd) := by show Below _ _ _; rw [← hwd.out]; exact (Below.refl _ _).drew
      have KD := Lib.hid (HKD.out.later BD.out)
      clear r0 r1 r2 u0 u1 u2 HKD hwd BD
      go_wp2_with fail
      refine (HS1.out wd KD.out).mono ?_
      rintro e V1 ⟨rfl, hc1⟩
      have KD1 := Lib.hid (KD.out.later hc1)
      clear hc1 KD
      go_wp2_with (refine wpList_load_mid (by rfl) 24 _ (by rfl) gm (i * 3) (by rfl) [.string k.name, .string k.text, .slice bk k.kids.length dk] _ (HMR.out V1 KD1.out) Tryz.underlying24 rfl (by kernel_rfl) ?_)
      refine (HS2.out V1 KD1.out).mono ?_
      rintro e V2 ⟨rfl, hc2⟩
      have KD2 := Lib.hid (KD1.out.later hc2)
      clear hc2 KD1
      have r0 : V2.cell? ⟨gl, i * 3, none⟩ = some (.string ⟨nm.toArray⟩) := by rw [← HKN.out, ← name_list]; exact KD2.out.range 0 _ rfl
      have HSP := Lib.hid (spoil_any k ak ck lo hi2 V2 KD2.out.tree (Nat.le_trans KD2.out.high KD2.out.size))
      cases ok with
      | true =>
        go_wp2_with (refine wpList_load_mid (by rfl) 24 _ (by rfl) gl (i * 3) (by rfl) [.string k.name, .string k.text, .slice ak k.kids.length ck] _ KD2.out.range Tryz.underlying24 rfl (by kernel_rfl) ?_)
        refine HSP.out.mono ?_
        rintro e V3 ⟨⟨v3, rfl⟩, hc3⟩
        have LP3 := Lib.hid (KD2.out.next hc3)
        clear hc3 KD2 HSP r0
        go_wp2_with fail
        go_roundg (m.length - (i + 1))
        case measure => omega
        case rel => exact ⟨i + 1, by omega, Nat.le_refl _, by go_num, LP3.out.below, fun _ => LP3.out⟩
      | false =>
        go_wp2_with (refine wpList_load_mid (by rfl) 24 _ (by rfl) gl (i * 3) (by rfl) [.string k.name, .string k.text, .slice ak k.kids.length ck] _ KD2.out.range Tryz.underlying24 rfl (by kernel_rfl) ?_)
        refine HSP.out.mono ?_
        rintro e V3 ⟨⟨v3, rfl⟩, hc3⟩
        have LP3 := Lib.hid (KD2.out.next hc3)
        clear hc3 KD2 HSP r0
        go_wp2_with fail
        go_roundg (m.length - (i + 1))
        case measure => omega
        case rel => exact ⟨i + 1, by omega, Nat.le_refl _, by go_num, LP3.out.below, fun _ => LP3.out⟩
    · have hiz : ¬ (i : Int) < (m.length : Int) := by omega
      have YR := Lib.hid (YF.out.later BR.out)
      cases ow with
      | false =>
        go_wp2_with fail
        go_ret
        exact ⟨rfl, YR.out.box.below⟩
      | true =>
        have HSA := Lib.hid (rSame_any t t az a cz c wr (ZF.out.later BR.out) (HT.out.later YR.out.box.below))
        rw [HOW2.out] at HSA
        go_wp2_with (first
          | (refine wpList_wanted (by go_simp) ?_; refine wp_load_row 24 _ (by rfl) gx (by rfl) 24 (elC t az cz) (0, 0) _ (by exact YR.out.x) Tryz.underlying24 rfl (by kernel_rfl) ?_)
          | (refine wpList_wanted (by go_simp) ?_; refine wp_load_row 24 _ (by rfl) w.heap.size (by rfl) 24 (elC t a c) (0, 0) _ (by exact YR.out.box.one) Tryz.underlying24 rfl (by kernel_rfl) ?_))
        refine HSA.out.mono ?_
        rintro e V4 ⟨rfl, hc4⟩
        have B4 := Lib.hid (YR.out.later hc4).box.below
        clear hc4
        go_wp2_with fail
        go_ret
        exact ⟨rfl, B4.out⟩
end Go.Proofs.YtgmgghbocidibaaGreatDoor
