/-
  xml's reader: end: the innermost element ends, and is laid into the one around it. (Printed by wip/gen/xmend.py.)
-/
import Derived.Test.YtgmgghbocidibaaGreatDoorXmElem
import Derived.Test.YtgmgghbocidibaaGreatDoorSm4
namespace Go.Proofs.YtgmgghbocidibaaGreatDoor
open Go.RowKit Go.Lib Go.PlainAid

theorem esc_ge (l : Bs) : l.length ≤ (escL l).length := by
  have h : ∀ b : UInt8, 1 ≤ (escB b).length := fun b => by
    unfold escB
    repeat' split
    all_goals first | decide | (simp; done)
  induction l with
  | nil => simp
  | cons b l ih =>
    have := h b
    unfold escL at ih ⊢
    rw [List.flatMap_cons, List.length_append, List.length_cons]
    omega
theorem kids_le : ∀ (ks : List Tree) (d : Nat), RightKs d ks → ks.length ≤ (writeKids ks).length
  | [], d, _ => by simp
  | k :: ks, d, h => by
    unfold RightKs at h
    have h1 := cnt_le k d h.1
    have h2 := kids_le ks d h.2
    have h3 := cnt_pos k
    unfold writeKids
    rw [List.length_append, List.length_cons]
    omega
/-- what is open is small -/
theorem opn_small {o : Opn} {d : Nat} (h : OpnOK d o) (hw : opnW o ≤ 48000) : o.name.length ≤ 100 ∧ o.text.length ≤ 100000 ∧ o.kids.length ≤ 100000 := by
  have h1 := esc_ge o.text
  have h2 := kids_le o.kids _ h.2.2.2
  have h3 := h.2.1.2.1
  unfold opnW at hw
  exact ⟨h3, by omega, by omega⟩
theorem OpIn.below {w w' : World} {o : Opn} {g hi : Nat} {kv v : Value} (h : OpIn w o g hi kv v) (hb : Below w.heap.size w w') : OpIn w' o g hi kv v :=
  h.kept (Nat.le_refl _) fun k _ _ hk => by
    obtain ⟨cs, t, e, _⟩ := hk
    exact hb.block k (Array.getElem?_eq_some_iff.1 e).1
/-- what elem writes -/
abbrev ElM (g : Nat) (v : Value) : Nat → Prop := fun k => k = g ∨ some k = v.ownBlock
theorem OpIn.lt_of {w : World} {o : Opn} {g hi : Nat} {kv v : Value} (h : OpIn w o g hi kv v) {k : Nat} (hk : ElM g v k) : g ≤ k ∧ k < hi ∧ ¬ IsE w k := by
  rcases hk with rfl | hk
  · refine ⟨Nat.le_refl _, h.top, fun he => ?_⟩
    obtain ⟨ad, hb, _⟩ := h.bd.box
    exact isE_not_open hb (by decide) he rfl
  · have := (h.bd.own.lt k hk.symm).1
    exact ⟨by omega, h.buf k hk.symm, fun he => isE_not_buf h.bd.own he hk⟩
theorem own_put {w w' : World} {lo q n cap : Nat} {cur : Array Value} {xs old new : List Value} (h : w.ownsRow lo 24 3 (.slice (some ⟨q, 0, none⟩) (n + 1) cap) (n + 1) (xs ++ old)) (hq : w.heap[q]? = some (.cells cur 24 (0, 0))) (hx : xs.length = n * 3) (hn : new.length = 3)
    (hw : w'.heap[q]? = some (.cells (partSet cur (n * 3) new) 24 (0, 0))) : w'.ownsRow lo 24 3 (.slice (some ⟨q, 0, none⟩) (n + 1) cap) (n + 1) (xs ++ new) := by
  refine ⟨by rw [List.length_append]; omega, ?_⟩
  rcases h.2 with ⟨e, _⟩ | ⟨g, c, cur', e, hb, hg, hn', hm, hcs, ht⟩
  · cases e
  · injection e with e1 e2 e3
    injection e1 with e1
    injection e1 with e1 _ _
    subst e1 e3
    rw [hq] at hg
    injection hg with hg
    injection hg with hg _ _
    subst hg
    have hfit : n * 3 + new.length ≤ cur.size := by rw [hcs, hn]; have := Nat.mul_le_mul_right 3 hn'; omega
    refine .inr ⟨q, cap, _, rfl, hb, hw, hn', hm, by rw [partSet_size hfit]; exact hcs, ?_⟩
    rw [show (n + 1) * 3 = n * 3 + new.length by omega, partSet_take hfit]
    congr 1
    rw [show n * 3 = min (n * 3) ((n + 1) * 3) by omega, ← List.take_take, ht, ← hx, List.take_left]
theorem own_size {w : World} {lo q n cap : Nat} {cur : Array Value} {xs : List Value} (h : w.ownsRow lo 24 3 (.slice (some ⟨q, 0, none⟩) (n + 1) cap) (n + 1) xs) (hq : w.heap[q]? = some (.cells cur 24 (0, 0))) : n * 3 + 3 ≤ cur.size := by
  rcases h.2 with ⟨e, _⟩ | ⟨g, c, cur', e, hb, hg, hn', hm, hcs, ht⟩
  · cases e
  · injection e with e1 e2 e3
    injection e1 with e1
    injection e1 with e1 _ _
    subst e1 e3
    rw [hq] at hg
    injection hg with hg
    injection hg with hg _ _
    subst hg
    have := Nat.mul_le_mul_right 3 hn'
    omega
/-- the two stores at the end, in whatever order -/
structure Fin2 (W9 W : World) (q g n : Nat) (nm : ByteArray) (kv kv' ad v : Value) (sd : Bool) (E : List Value) (cur : Array Value) (d1 d2 : Bool) : Prop where
  os : W.os = W9.os
  tape : W.tape = W9.tape
  output : W.output = W9.output
  size : W.heap.size = W9.heap.size
  cur9 : W9.heap[q]? = some (.cells cur 24 (0, 0))
  row : W.heap[q]? = some (.cells (if d1 then partSet cur (n * 3) E else cur) 24 (0, 0))
  box : W.heap[g]? = some (.cells (oC nm (if d2 then kv' else kv) ad v sd) 103 (0, 0))
  rest : ∀ k, k ≠ q → k ≠ g → W.heap[k]? = W9.heap[k]?
theorem Fin2.ne {W9 W : World} {q g n : Nat} {nm : ByteArray} {kv kv' ad v : Value} {sd : Bool} {E : List Value} {cur : Array Value} {d1 d2 : Bool} (h : Fin2 W9 W q g n nm kv kv' ad v sd E cur d1 d2) : q ≠ g := fun e => by
  have h1 := h.row
  have h2 := h.box
  rw [e] at h1
  rw [h1] at h2
  injection h2 with h2
  injection h2 with _ h2 _
  exact absurd h2 (by decide)
theorem Fin2.first {W9 W : World} {q g n : Nat} {nm : ByteArray} {kv kv' ad v : Value} {sd : Bool} {E : List Value} {cur : Array Value} {d2 : Bool} (h : Fin2 W9 W q g n nm kv kv' ad v sd E cur false d2) : Fin2 W9 (W.setRow q (partSet cur (n * 3) E)) q g n nm kv kv' ad v sd E cur true d2 :=
  ⟨h.os, h.tape, h.output, by have := h.size; simpa using this, h.cur9, setRow_heap _ _ _ _ _ _ h.row, (setRow_other _ _ _ _ (Ne.symm h.ne)).trans h.box, fun k h1 h2 => (setRow_other _ _ _ _ h1).trans (h.rest k h1 h2)⟩
theorem oC_part (nm : ByteArray) (kv kv' ad v : Value) (sd : Bool) : partSet (oC nm kv ad v sd) 2 [kv'] = oC nm kv' ad v sd := rfl
theorem Fin2.second {W9 W : World} {q g n : Nat} {nm : ByteArray} {kv kv' ad v : Value} {sd : Bool} {E : List Value} {cur : Array Value} {d1 : Bool} (h : Fin2 W9 W q g n nm kv kv' ad v sd E cur d1 false) : Fin2 W9 (W.setRow g (partSet (oC nm kv ad v sd) 2 [kv'])) q g n nm kv kv' ad v sd E cur d1 true := by
  rw [oC_part]
  exact ⟨h.os, h.tape, h.output, by have := h.size; simpa using this, h.cur9, (setRow_other _ _ _ _ h.ne).trans h.row, setRow_heap _ _ _ _ _ _ h.box, fun k h1 h2 => (setRow_other _ _ _ _ h2).trans (h.rest k h1 h2)⟩
theorem own_type {w : World} {lo n sz : Nat} {e : TypeId} {v : Value} {xs : List Value} (h : w.ownsRow lo e sz v n xs) {k : Nat} (hk : v.ownBlock = some k) : ∃ cs, w.heap[k]? = some (.cells cs e (0, 0)) := by
  rcases h.2 with ⟨rfl, _⟩ | ⟨q, cap, cur, rfl, _, hq, _⟩
  · cases hk
  · injection hk with hk
    simp only at hk
    subst hk
    exact ⟨cur, hq⟩
theorem type_eq {w : World} {k : Nat} {cs cs' : Array Value} {t t' : TypeId} (h : w.heap[k]? = some (.cells cs t (0, 0))) (h' : w.heap[k]? = some (.cells cs' t' (0, 0))) : t = t' := by
  rw [h] at h'
  injection h' with h'
  injection h' with _ h' _
/-- what was open behind the end -/
theorem end_pile {W3 WA W9 W : World} {b B g1 g2 q cap : Nat} {S : ByteArray} {r : Bs} {o a : Opn} {ps : List Opn} {gs : List Nat} {pv kv1 kv2 v1 v2 : Value} {ad : Option Addr} {xs : List Value} {ok : Nat → Prop} {cur : Array Value}
    (hR : RdAt W3 b S r pv) (hO1 : OpIn W3 o g1 W3.heap.size kv1 v1) (hO2 : OpIn W3 a g2 g1 kv2 v2) (hPA : PileAt W3 ps gs g2) (hrow : W3.ownsRow B 93 1 pv (ps.length + 1) ((g2 :: gs).reverse.map ptr)) (hfar : ∀ x ∈ g2 :: gs, B ≤ x) (hlow : b < B) (hhi : B ≤ W3.heap.size)
    (hn : o.name.length ≤ 100) (ht : o.text.length ≤ 100000) (hk : o.kids.length ≤ 100000)
    (hadv : ad = none ∨ ad = some ⟨g2, 3, none⟩)
    (hc : Chg W3 WA (ElM g1 v1))
    (hx : W3.ownsRow (g2 + 1) 24 3 kv2 a.kids.length xs) (hx2 : RowOf W3 ok a.kids xs) (hx3 : ∀ b, ok b → g2 + 1 ≤ b ∧ b < g1 ∧ some b ≠ kv2.ownBlock ∧ IsE W3 b) (hx4 : ∀ k, kv2.ownBlock = some k → k < g1)
    (hown : W9.ownsRow (g2 + 1) 24 3 (.slice (some ⟨q, 0, none⟩) (a.kids.length + 1) cap) (a.kids.length + 1) (xs ++ [.string ⟨#[]⟩, .string ⟨#[]⟩, .slice none 0 0])) (hgr : WA.grownBy W9 kv2.ownBlock) (hat : kv2.ownBlock = some q ∨ q = WA.heap.size)
    (hF : Fin2 W9 W q g2 a.kids.length (Bs.str a.name) kv2 (.slice (some ⟨q, 0, none⟩) (a.kids.length + 1) cap) (.pointer ad) v2 a.solid [.string o.elem.name, .string o.elem.text, kv1] cur true true) :
    From b B W3 W ∧ Mach W b B S r (endL (o :: a :: ps)) := by
  have hBg2 : B ≤ g2 := hfar g2 (by simp)
  have hbg2 : b < g2 := by omega
  have hg12 : g2 < g1 := hO2.top
  have hg1s : g1 < W3.heap.size := hO1.top
  have hcs := hc.size
  have hgs := hgr.size
  have hqlo : g2 + 1 ≤ q := (hown.lt q rfl).1
  have hkvlo : ∀ k, kv2.ownBlock = some k → g2 + 1 ≤ k := fun k h => (hx.lt k h).1
  -- blocks of W3 that stay
  have keep : ∀ k, k < W3.heap.size → ¬ ElM g1 v1 k → some k ≠ kv2.ownBlock → k ≠ g2 → W.heap[k]? = W3.heap[k]? := fun k h1 h2 h3 h4 => by
    have hkq : k ≠ q := fun e => by
      rcases hat with h | h
      · exact h3 (by rw [h, e])
      · omega
    rw [hF.rest k hkq h4, hgr.block k (by omega) h3, hc.block k h1 h2]
  have hEl : ∀ k, ElM g1 v1 k → g1 ≤ k := fun k h => (hO1.lt_of h).1
  have keepP : ∀ k, k < g2 → IsP W3 k → W.heap[k]? = W3.heap[k]? := fun k h1 _ => keep k (by omega) (fun h => by have := hEl k h; omega) (fun e => by have := hkvlo k e.symm; omega) (by omega)
  have hR' : RdAt W b S r pv := by
    obtain ⟨a', h1, h2, h3, h4⟩ := hR
    exact ⟨a', h1, h2, h3, (keep b (by omega) (fun h => by have := hEl b h; omega) (fun e => by have := hkvlo b e.symm; omega) (by omega)).trans h4⟩
  have hEE : ElE WA (g1 + 1) WA.heap.size o.elem kv1 := by
    refine (hO1.kids.elem hn ht hk).kept hcs fun k h1 h2 h3 => hc.block k h2 (fun h => (hO1.lt_of h).2.2 h3)
  have isE_keep : ∀ k, IsE W3 k → WA.heap[k]? = W3.heap[k]? := fun k h => hc.block k h.lt (fun h2 => (hO1.lt_of h2).2.2 h)
  have hxA := own_keep (w' := WA) hx fun k hk => isE_keep k (own_isE hx hk)
  have hKE : KidE W (g2 + 1) W.heap.size (.slice (some ⟨q, 0, none⟩) (a.kids.length + 1) cap) (a.kids ++ [o.elem]) := by
    refine KidE.push (W := WA) (ok := ok) hxA (RowOf.kept (fun k _ hok => isE_keep k (hx3 k hok).2.2.2) (fun _ _ h => h) hx2) (fun k hok => ?_) hEE (by omega) (fun k h => by have := hx4 k h; omega) (own_put hown hF.cur9 (by rw [hx.1]) rfl hF.row) (fun k hk hne => ?_) (by rw [hF.size]; exact hgs) (hat.imp id fun e => by omega) (Nat.le_refl _)
    · obtain ⟨q1, q2, q3, q4⟩ := hx3 k hok
      obtain ⟨cs, he⟩ := q4
      exact ⟨q1, by omega, q3, cs, (isE_keep k ⟨cs, he⟩).trans he⟩
    · have hkq : k ≠ q := fun e => by
        rcases hat with h | h
        · exact hne (by rw [h, e])
        · have := hk.lt; omega
      have hkg : k ≠ g2 := fun e => by
        subst e
        have h9 : W9.heap[k]? = WA.heap[k]? := hgr.block k hk.lt hne
        have hb2 := hO2.bd.box
        obtain ⟨ad', hb2, _⟩ := hb2
        have hA : WA.heap[k]? = W3.heap[k]? := hc.block k (by omega) (fun h => by have := hEl k h; omega)
        exact isE_not_open (hA.trans hb2) (by decide) hk rfl
      rw [hF.rest k hkq hkg, hgr.block k hk.lt hne]
  refine ⟨?_, ⟨pv, g2 :: gs, hR', ?_, ?_, hfar, hlow, by rw [hF.size]; omega⟩⟩
  · refine ⟨hF.os.trans (hgr.os.trans hc.os), hF.tape.trans (hgr.tape.trans hc.tape), hF.output.trans (hgr.output.trans hc.output), by rw [hF.size]; omega, fun k hk hn => ?_⟩
    exact keep k hk (fun h => by have := hEl k h; omega) (fun e => by have := hkvlo k e.symm; omega) (by omega)
  · rw [show (endL (o :: a :: ps)).length = ps.length + 1 from rfl]
    refine own_keep hrow fun k hk => ?_
    obtain ⟨cs, hkt⟩ := own_type hrow hk
    refine keep k (hrow.lt k hk).2 (fun h => ?_) (fun e => ?_) (fun e => ?_)
    · rcases h with h | h
      · obtain ⟨ad', hb1, _⟩ := hO1.bd.box
        rw [h] at hkt
        exact absurd (type_eq hkt hb1) (by decide)
      · obtain ⟨cs', hv⟩ := own_type hO1.bd.own h.symm
        exact absurd (type_eq hkt hv) (by decide)
    · obtain ⟨cs', hv⟩ := own_type hx e.symm
      exact absurd (type_eq hkt hv) (by decide)
    · obtain ⟨ad', hb2, _⟩ := hO2.bd.box
      rw [e] at hkt
      exact absurd (type_eq hkt hb2) (by decide)
  · refine ⟨⟨_, v2, ⟨⟨ad, hF.box, hadv⟩, ?_⟩, hKE, by rw [hF.size]; omega, fun k hk => ?_, hO2.emp⟩, hPA.kept (Nat.le_refl _) keepP⟩
    · refine own_keep hO2.bd.own fun k hk => keep k (by have := hO2.buf k hk; omega) (fun h => by have := hEl k h; have := hO2.buf k hk; omega) (fun e => ?_) (fun e => hO2.bd.nb (by rw [hk, e]))
      exact isE_not_buf hO2.bd.own (own_isE hx e.symm) hk.symm
    · have := hO2.buf k hk
      rw [hF.size]
      omega
/-- what is known ahead of the last stores -/
structure EndCtx (W3 : World) (b B : Nat) (S : ByteArray) (r : Bs) (o a : Opn) (ps : List Opn) (gs : List Nat) (g1 g2 : Nat) (pv kv1 kv2 v1 v2 : Value) (ad : Option Addr) (xs : List Value) (ok : Nat → Prop) : Prop where
  hR : RdAt W3 b S r pv
  hO1 : OpIn W3 o g1 W3.heap.size kv1 v1
  hO2 : OpIn W3 a g2 g1 kv2 v2
  hPA : PileAt W3 ps gs g2
  hrow : W3.ownsRow B 93 1 pv (ps.length + 1) ((g2 :: gs).reverse.map ptr)
  hfar : ∀ x ∈ g2 :: gs, B ≤ x
  hlow : b < B
  hhi : B ≤ W3.heap.size
  hn : o.name.length ≤ 100
  ht : o.text.length ≤ 100000
  hk : o.kids.length ≤ 100000
  box : W3.heap[g2]? = some (.cells (oC (Bs.str a.name) kv2 (.pointer ad) v2 a.solid) 103 (0, 0))
  hadv : ad = none ∨ ad = some ⟨g2, 3, none⟩
  hx : W3.ownsRow (g2 + 1) 24 3 kv2 a.kids.length xs
  hx2 : RowOf W3 ok a.kids xs
  hx3 : ∀ b, ok b → g2 + 1 ≤ b ∧ b < g1 ∧ some b ≠ kv2.ownBlock ∧ IsE W3 b
  hx4 : ∀ k, kv2.ownBlock = some k → k < g1
theorem EndCtx.own {W3 WA : World} {b B : Nat} {S : ByteArray} {r : Bs} {o a : Opn} {ps : List Opn} {gs : List Nat} {g1 g2 : Nat} {pv kv1 kv2 v1 v2 : Value} {ad : Option Addr} {xs : List Value} {ok : Nat → Prop} (h : EndCtx W3 b B S r o a ps gs g1 g2 pv kv1 kv2 v1 v2 ad xs ok) (hc : Chg W3 WA (ElM g1 v1)) : WA.ownsRow (g2 + 1) 24 3 kv2 a.kids.length xs :=
  own_keep h.hx fun k hk => hc.block k (h.hx.lt k hk).2 (fun h2 => (h.hO1.lt_of h2).2.2 (own_isE h.hx hk))
theorem EndCtx.low {W3 WA : World} {b B : Nat} {S : ByteArray} {r : Bs} {o a : Opn} {ps : List Opn} {gs : List Nat} {g1 g2 : Nat} {pv kv1 kv2 v1 v2 : Value} {ad : Option Addr} {xs : List Value} {ok : Nat → Prop} (h : EndCtx W3 b B S r o a ps gs g1 g2 pv kv1 kv2 v1 v2 ad xs ok) (hc : Chg W3 WA (ElM g1 v1)) : g2 + 1 ≤ WA.heap.size ∧ WA.cell? ⟨g2, 2, none⟩ = some kv2 := by
  have h1 := h.hO2.top
  have h2 := h.hO1.top
  have h3 := hc.size
  refine ⟨by omega, ?_⟩
  have hb : WA.heap[g2]? = some (.cells (oC (Bs.str a.name) kv2 (.pointer ad) v2 a.solid) 103 (0, 0)) := (hc.block g2 (by omega) (fun h4 => by have := (h.hO1.lt_of h4).1; omega)).trans h.box
  exact cell_at hb rfl
theorem EndCtx.mid {W3 WA W9 : World} {b B : Nat} {S : ByteArray} {r : Bs} {o a : Opn} {ps : List Opn} {gs : List Nat} {g1 g2 q cap : Nat} {pv kv1 kv2 v1 v2 : Value} {ad : Option Addr} {xs : List Value} {ok : Nat → Prop} (h : EndCtx W3 b B S r o a ps gs g1 g2 pv kv1 kv2 v1 v2 ad xs ok) (hc : Chg W3 WA (ElM g1 v1))
    (hown : W9.ownsRow (g2 + 1) 24 3 (.slice (some ⟨q, 0, none⟩) (a.kids.length + 1) cap) (a.kids.length + 1) (xs ++ [.string ⟨#[]⟩, .string ⟨#[]⟩, .slice none 0 0])) (hgr : WA.grownBy W9 kv2.ownBlock) (hat : kv2.ownBlock = some q ∨ q = WA.heap.size) :
    ∃ cur, a.kids.length * 3 + 3 ≤ cur.size ∧ Fin2 W9 W9 q g2 a.kids.length (Bs.str a.name) kv2 (.slice (some ⟨q, 0, none⟩) (a.kids.length + 1) cap) (.pointer ad) v2 a.solid [.string o.elem.name, .string o.elem.text, kv1] cur false false ∧
      ∀ W, Fin2 W9 W q g2 a.kids.length (Bs.str a.name) kv2 (.slice (some ⟨q, 0, none⟩) (a.kids.length + 1) cap) (.pointer ad) v2 a.solid [.string o.elem.name, .string o.elem.text, kv1] cur true true → From b B W3 W ∧ Mach W b B S r (endL (o :: a :: ps)) := by
  obtain ⟨cur, hq⟩ : ∃ cs, W9.heap[q]? = some (.cells cs 24 (0, 0)) := own_type hown rfl
  have h1 := h.hO2.top
  have h2 := h.hO1.top
  have h3 := hc.size
  have hne : some g2 ≠ kv2.ownBlock := fun e => by have := (h.hx.lt g2 e.symm).1; omega
  have hb : W9.heap[g2]? = some (.cells (oC (Bs.str a.name) kv2 (.pointer ad) v2 a.solid) 103 (0, 0)) := (hgr.block g2 (by omega) hne).trans ((hc.block g2 (by omega) (fun h4 => by have := (h.hO1.lt_of h4).1; omega)).trans h.box)
  refine ⟨cur, own_size hown hq, ⟨rfl, rfl, rfl, rfl, hq, hq, hb, fun _ _ _ => rfl⟩, fun W hF => ?_⟩
  exact end_pile h.hR h.hO1 h.hO2 h.hPA h.hrow h.hfar h.hlow h.hhi h.hn h.ht h.hk h.hadv hc h.hx h.hx2 h.hx3 h.hx4 hown hgr hat hF
theorem own_short {w : World} {lo n : Nat} {e : TypeId} {g cap : Nat} {x : Value} {xs : List Value} (h : w.ownsRow lo e 1 (.slice (some ⟨g, 0, none⟩) (n + 1) cap) (n + 1) (xs ++ [x])) : w.ownsRow lo e 1 (.slice (some ⟨g, 0, none⟩) n cap) n xs := by
  have hl := h.1
  simp only [List.length_append, List.length_cons, List.length_nil] at hl
  refine ⟨by omega, ?_⟩
  rcases h.2 with ⟨e, _⟩ | ⟨q, c, cur, e, hb, hg, hn, hm, hcs, ht⟩
  · cases e
  · injection e with e1 e2 e3
    injection e1 with e1
    injection e1 with e1 _ _
    subst e1 e3
    refine .inr ⟨g, cap, cur, rfl, hb, hg, by omega, hm, hcs, ?_⟩
    rw [show n * 1 = min (n * 1) ((n + 1) * 1) by omega, ← List.take_take, ht, show n * 1 = xs.length by omega, List.take_left]
/-- how end ends -/
def EndOut (b B : Nat) (S : ByteArray) (r : Bs) (ps : List Opn) (w : World) (e : Ending) (w' : World) : Prop := e = .returned (.tuple #[]) ∧ From b B w w' ∧ Mach w' b B S r (endL ps)

set_option maxHeartbeats 2000000 in
set_option maxRecDepth 100000 in
theorem end_one {w : World} {b B : Nat} {S : ByteArray} {r : Bs} {o : Opn} (h : Mach w b B S r [o]) :
    Calls Tryz.prog 62 #[.pointer (some ⟨b, 0, none⟩)] w (EndOut b B S r [o] w) := by
  have HM := Lib.hid h
  obtain ⟨pv, gs, hR, hP⟩ := h.ex
  obtain ⟨av, cv, rfl⟩ : ∃ a c, pv = .slice a 1 c := own_form' hP.row
  obtain ⟨a, -, -, -, -, -, q2, q3, -⟩ := hR.cells
  clear h hR hP
  go_enter Tryz.func62, Tryz.ntmps62
  go_wp2_with fail
  go_end0
  exact ⟨rfl, Chg.refl _ _, HM.out⟩

set_option maxHeartbeats 8000000 in
set_option maxRecDepth 100000 in
theorem end_two {w : World} {b B : Nat} {S : ByteArray} {r : Bs} {o a : Opn} {ps : List Opn} (h : Mach w b B S r (o :: a :: ps)) (hps : ps.length ≤ 20) (hn : o.name.length ≤ 100) (ht : o.text.length ≤ 100000) (hk : o.kids.length ≤ 100000) (hka : a.kids.length ≤ 100000) :
    Calls Tryz.prog 62 #[.pointer (some ⟨b, 0, none⟩)] w (EndOut b B S r (o :: a :: ps) w) := by
  obtain ⟨i0, hi0, hz0, hz1, hz2⟩ := info_elem
  obtain ⟨pv, gs0, hR, hP⟩ := h.ex
  obtain ⟨g1, g2, gs, rfl⟩ : ∃ g1 g2 gs, gs0 = g1 :: g2 :: gs := by
    have := hP.at_.len
    match gs0, this with
    | g1 :: g2 :: gs, _ => exact ⟨g1, g2, gs, rfl⟩
    | [g1], h => simp at h
    | [], h => simp at h
  have hgl : gs.length = ps.length := by have := hP.at_.len; simpa using this
  obtain ⟨⟨kv1, v1, hO1⟩, ⟨kv2, v2, hO2⟩, hPA⟩ := hP.at_
  obtain ⟨pb, cv, rfl, hpb, hpl⟩ := hP.row.form (by simp)
  have hlen : (o :: a :: ps).length = ps.length + 2 := rfl
  have hcv : (ps.length : Int) + 2 ≤ (cv : Int) := by
    rcases hP.row.2 with ⟨e, _⟩ | ⟨q, cap, cur, e, _, _, h1, _⟩
    · cases e
    · injection e with _ _ e3
      subst e3
      rw [hlen] at h1
      omega
  rw [hlen] at hR hP
  have hcs := hP.row.cells (g := pb) rfl
  have c1 : w.cell? ⟨pb, ps.length + 1, none⟩ = some (ptr g1) := by
    have := hcs (ps.length + 1) (ptr g1) (by simp [← hgl])
    rw [Addr.add_lit, Nat.zero_add] at this
    exact this
  have c2 : w.cell? ⟨pb, ps.length, none⟩ = some (ptr g2) := by
    have := hcs ps.length (ptr g2) (by simp [← hgl])
    rw [Addr.add_lit, Nat.zero_add] at this
    exact this
  unfold ptr at c1 c2
  obtain ⟨a0, ha0, hs, hd, q0, q1, q2, q3, hh⟩ := hR.cells
  have hnz : (ps.length : Int) ≤ 20 := by omega
  have f3 : w.frozen? ⟨b, 3, none⟩ = false := free_of_heap hh
  have HH := Lib.hid hh
  have HD := Lib.hid hd
  have HR := Lib.hid hR
  have HP := Lib.hid hP
  have HO1 := Lib.hid hO1
  have HO2 := Lib.hid hO2
  have HPA := Lib.hid hPA
  clear h hh hd hR hP hO1 hO2 hPA hcs q0 q1
  generalize hN : ps.length = N at *
  go_enter Tryz.func62, Tryz.ntmps62
  go_upto_region 2 with (fail)
  go_quiet (fail)
  obtain ⟨W3, hW3⟩ : ∃ W3, (w.drewN nq).setCell ⟨b, 3, none⟩ (.slice (some ⟨pb, 0, none⟩) (N + 1) cv) = W3 := ⟨_, rfl⟩
  go_upto_region 4 with (fail)
  (try rw [hW3])
  have m3 : Mine b w W3 := by rw [← hW3]; exact (mine_drewN nq (Chg.refl _ _)).trans (mine_set _ _ _ _)
  have h3 : RdAt W3 b S r (.slice (some ⟨pb, 0, none⟩) (N + 1) cv) := by
    refine ⟨a0, ha0, hs, HD.out, ?_⟩
    have hh' : (w.drewN nq).heap[b]? = some (.cells (rdC S a0 (.pointer none) (.slice (some ⟨pb, 0, none⟩) (N + 2) cv)) 60 (0, 0)) := HH.out
    rw [← hW3, heap_set hh']
    rfl
  have hkP : ∀ k, IsP w k → W3.heap[k]? = w.heap[k]? := fun k hk => by
    have hk2 := hk
    obtain ⟨cs, t, e, _⟩ := hk
    exact m3.block k (Array.getElem?_eq_some_iff.1 e).1 (fun e2 => by subst e2; exact HR.out.not_isP hk2)
  have o1 : OpIn W3 o g1 W3.heap.size kv1 v1 := HO1.out.kept m3.size fun k _ _ hk => hkP k hk
  have o2 : OpIn W3 a g2 g1 kv2 v2 := HO2.out.kept (Nat.le_refl _) fun k _ _ hk => hkP k hk
  obtain ⟨xs, ok, hx, hx2, hx3, hx4⟩ := o2.kids.row
  obtain ⟨ad, hbx, hadv⟩ := o2.bd.box
  obtain ⟨ak1, ck1, rfl⟩ := o1.kids.form
  obtain ⟨ak2, ck2, rfl⟩ := o2.kids.form
  have hrw : W3.ownsRow B 93 1 (.slice (some ⟨pb, 0, none⟩) (N + 1) cv) (N + 1) ((g2 :: gs).reverse.map ptr) := by
    have h1 := HP.out.row
    rw [hlen, map_snoc (g2 :: gs) g1] at h1
    exact own_mine (own_short h1) HP.out.low m3
  have HCX : Hid (EndCtx W3 b B S r o a ps gs g1 g2 (.slice (some ⟨pb, 0, none⟩) (N + 1) cv) (.slice ak1 o.kids.length ck1) (.slice ak2 a.kids.length ck2) v1 v2 ad xs ok) :=
    ⟨h3, o1, o2, HPA.out.kept (Nat.le_refl _) fun k _ hk => hkP k hk, by rw [hN]; exact hrw, fun x hx => HP.out.far x (by simp only [List.mem_cons] at hx ⊢; exact .inr hx), HP.out.low, Nat.le_trans HP.out.hi m3.size, hn, ht, hk, hbx, hadv, hx, hx2, hx3, hx4⟩
  have M3 := Lib.hid (From.mine (B := B) m3)
  have hkn : (a.kids.length : Int) ≤ 100000 := by omega
  have hkm : (a.kids.length : Int) < (a.kids.length : Int) + 1 := by omega
  clear hW3 m3 h3 hkP o1 o2 hx hx2 hx3 hx4 hbx hadv hrw HP HO1 HO2 HPA HR HH HD c1 c2 q2 q3 f3
  refine wp_region_held_drew (S := (fun _ => True)) (by kernel_rfl) trivial (fun hS0 => ?_)
  have Cz0 : Hid (Chg W3 W3.drew (ElM g1 v1)) := Chg.of_below (Below.drew (Below.refl _ _))
  have Bz0 : Hid (Below W3.heap.size W3 W3.drew) := Below.drew (Below.refl _ _)
  generalize W3.drew = z0 at Cz0 Bz0 ⊢
  refine wpAnyH_take (i := 0) (oi := { dst := some 48, op := _, type := _, pos := _, after := _, guard := _ }) (v := ?_) rfl (by kernel_rfl) (by kernel_rfl) (by kernel_rfl) (fun _ _ _ h => h) (Or.inl ⟨by kernel_rfl, ?_⟩) (by assumption) ?_
  rotate_left
  · (intro w hSw; (try dsimp only at hSw); go_simp); all_goals (with_reducible rfl)
  try simp only [Act.put, List.setIfInBounds_toArray, List.set_cons_zero, List.set_cons_succ]
  refine wpAnyH_take (i := 1) (oi := { dst := some 49, op := _, type := _, pos := _, after := _, guard := _ }) (v := ?_) rfl (by kernel_rfl) (by kernel_rfl) (by kernel_rfl) (fun _ _ _ h => h) (Or.inl ⟨by kernel_rfl, ?_⟩) (by assumption) ?_
  rotate_left
  · (intro w hSw; (try dsimp only at hSw); go_simp); all_goals (with_reducible rfl)
  try simp only [Act.put, List.setIfInBounds_toArray, List.set_cons_zero, List.set_cons_succ]
  refine wpAnyH_take (i := 2) (oi := { dst := some 50, op := _, type := _, pos := _, after := _, guard := _ }) (v := ?_) rfl (by kernel_rfl) (by kernel_rfl) (by kernel_rfl) (fun _ _ _ h => h) (Or.inl ⟨by kernel_rfl, ?_⟩) (by assumption) ?_
  rotate_left
  · (intro w hSw; (try dsimp only at hSw); go_simp); all_goals (with_reducible rfl)
  try simp only [Act.put, List.setIfInBounds_toArray, List.set_cons_zero, List.set_cons_succ]
  refine wpAnyH_take (i := 3) (oi := { dst := some 51, op := _, type := _, pos := _, after := _, guard := _ }) (v := ?_) rfl (by kernel_rfl) (by kernel_rfl) (by kernel_rfl) (fun _ _ _ h => h) (Or.inl ⟨by kernel_rfl, ?_⟩) (by assumption) ?_
  rotate_left
  · (intro w hSw; (try dsimp only at hSw); go_simp); all_goals (with_reducible rfl)
  try simp only [Act.put, List.setIfInBounds_toArray, List.set_cons_zero, List.set_cons_succ]
  refine wpAnyH_take (i := 5) (oi := { dst := some 53, op := _, type := _, pos := _, after := _, guard := _ }) (v := ?_) rfl (by kernel_rfl) (by kernel_rfl) (by kernel_rfl) (fun _ _ _ h => h) (Or.inl ⟨by kernel_rfl, ?_⟩) (by assumption) ?_
  rotate_left
  · (intro w hSw; (try dsimp only at hSw); go_simp); all_goals (with_reducible rfl)
  try simp only [Act.put, List.setIfInBounds_toArray, List.set_cons_zero, List.set_cons_succ]
  refine wpAnyH_ready (rs := [4, 6, 8]) (by kernel_rfl) (by simp) ?_
  refine (AllReadyH.cons (o := { dst := some 52, op := _, type := _, pos := _, after := _, guard := _ }) rfl (fun K hK => ?_) (AllReadyH.cons (o := { dst := some 54, op := _, type := _, pos := _, after := _, guard := _ }) rfl (fun K hK => ?_) (AllReadyH.cons (o := { dst := some 56, op := _, type := _, pos := _, after := _, guard := _ }) rfl (fun K hK => ?_) AllReadyH.nil)))
  · rw [if_pos (by kernel_rfl)]
    have kl := (HCX.out.low Cz0.out).2
    go_wp2_with fail
    clear kl
    refine hK.out _ _ trivial (fun _ => ?_)
    clear hK K
    try simp only [Act.put, List.setIfInBounds_toArray, List.set_cons_zero, List.set_cons_succ]
    refine wpAnyH_take (i := 7) (oi := { dst := some 55, op := _, type := _, pos := _, after := _, guard := _ }) (v := ?_) rfl (by kernel_rfl) (by kernel_rfl) (by kernel_rfl) (fun _ _ _ h => h) (Or.inl ⟨by kernel_rfl, ?_⟩) (by assumption) ?_
    rotate_left
    · (intro w hSw; (try dsimp only at hSw); go_simp); all_goals (with_reducible rfl)
    try simp only [Act.put, List.setIfInBounds_toArray, List.set_cons_zero, List.set_cons_succ]
    refine wpAnyH_ready (rs := [6, 8]) (by kernel_rfl) (by simp) ?_
    refine (AllReadyH.cons (o := { dst := some 54, op := _, type := _, pos := _, after := _, guard := _ }) rfl (fun K hK => ?_) (AllReadyH.cons (o := { dst := some 56, op := _, type := _, pos := _, after := _, guard := _ }) rfl (fun K hK => ?_) AllReadyH.nil))
    · rw [if_pos (by kernel_rfl)]
      refine wp_call_go Tryz.func41 (by kernel_rfl) (by kernel_rfl) (xs := [.tmp 53]) (by rfl) (vs := [.pointer (some ⟨g1, 0, none⟩)]) (elem_any (HCX.out.hO1.below Bz0.out) ht) (by rfl) ?_
      rintro e z2 ⟨rfl, hc⟩
      refine ⟨_, rfl, ?_⟩
      have Cz2 := Lib.hid (Cz0.out.trans hc)
      clear hc
      refine hK.out _ z2 trivial (fun _ => ?_)
      clear hK K
      try simp only [Act.put, List.setIfInBounds_toArray, List.set_cons_zero, List.set_cons_succ]
      refine wpAnyH_ready (rs := [8]) (by kernel_rfl) (by simp) ?_
      refine (AllReadyH.cons (o := { dst := some 56, op := _, type := _, pos := _, after := _, guard := _ }) rfl (fun K hK => ?_) AllReadyH.nil)
      rw [if_pos (by kernel_rfl)]
      go_wp2_with fail
      have Cz3 := Lib.hid (Cz2.out.below_on (below_alloc (Below.refl _ _) (Nat.le_refl _) (.cells #[.string ⟨#[]⟩, .string ⟨#[]⟩, .slice none 0 0] 24)))
      have HBz3 := Lib.hid (heap_alloc_new z2 (.cells #[.string ⟨#[]⟩, .string ⟨#[]⟩, .slice none 0 0] 24))
      have GA := Lib.hid Cz2.out.size
      refine hK.out _ (z2.alloc (.cells #[.string ⟨#[]⟩, .string ⟨#[]⟩, .slice none 0 0] 24)) trivial (fun _ => ?_)
      generalize z2.alloc (.cells #[.string ⟨#[]⟩, .string ⟨#[]⟩, .slice none 0 0] 24) = z3 at Cz3 HBz3  ⊢
      generalize z2.heap.size = gA at HBz3 GA ⊢
      clear hK K
      try simp only [Act.put, List.setIfInBounds_toArray, List.set_cons_zero, List.set_cons_succ]
      refine wpAnyH_ready (rs := [9]) (by kernel_rfl) (by simp) ?_
      refine (AllReadyH.cons (o := { dst := some 57, op := _, type := _, pos := _, after := _, guard := _ }) rfl (fun K hK => ?_) AllReadyH.nil)
      rw [if_pos (by kernel_rfl)]
      refine wp_append_lies _ _ _ _ (by rfl) (g2 + 1) 24 i0 _ 3 56 Tryz.underlying22 hi0 hz0 hz1 hz2 rfl (by decide) _ a.kids.length xs (by rfl) (HCX.out.own Cz3.out) ⟨gA, 0, none⟩ 1 1 [.string ⟨#[]⟩, .string ⟨#[]⟩, .slice none 0 0] (by rfl) (by rfl) (fun j u hj => by rw [Addr.add_lit, cell_of_heap HBz3.out]; simpa using hj) (by simp [Value.oneCell']) (by decide) (by simp only [maxLen]; omega) (by omega) ((HCX.out.low Cz3.out).1) _ rfl ?_
      intro q cap W9 hown hgr hat hlt3
      obtain ⟨cur, hsz, hF, hE⟩ := HCX.out.mid Cz3.out hown hgr hat
      have HE := Lib.hid hE
      have FW9 := Lib.hid hF
      clear hown hgr hat hlt3 hE hF
      refine hK.out _ W9 trivial (fun _ => ?_)
      clear hK K
      try simp only [Act.put, List.setIfInBounds_toArray, List.set_cons_zero, List.set_cons_succ]
      refine wpAnyH_take (i := 10) (oi := { dst := some 58, op := _, type := _, pos := _, after := _, guard := _ }) (v := ?_) rfl (by kernel_rfl) (by kernel_rfl) (by kernel_rfl) (fun _ _ _ h => h) (Or.inl ⟨by kernel_rfl, ?_⟩) (by assumption) ?_
      rotate_left
      · (intro w hSw; (try dsimp only at hSw); go_simp); all_goals (with_reducible rfl)
      try simp only [Act.put, List.setIfInBounds_toArray, List.set_cons_zero, List.set_cons_succ]
      refine wpAnyH_take (i := 12) (oi := { dst := some 59, op := _, type := _, pos := _, after := _, guard := _ }) (v := ?_) rfl (by kernel_rfl) (by kernel_rfl) (by kernel_rfl) (fun _ _ _ h => h) (Or.inl ⟨by kernel_rfl, ?_⟩) (by assumption) ?_
      rotate_left
      · (intro w hSw; (try dsimp only at hSw); go_simp); all_goals (with_reducible rfl)
      try simp only [Act.put, List.setIfInBounds_toArray, List.set_cons_zero, List.set_cons_succ]
      refine wpAnyH_take (i := 13) (oi := { dst := some 60, op := _, type := _, pos := _, after := _, guard := _ }) (v := ?_) rfl (by kernel_rfl) (by kernel_rfl) (by kernel_rfl) (fun _ _ _ h => h) (Or.inl ⟨by kernel_rfl, ?_⟩) (by assumption) ?_
      rotate_left
      · (intro w hSw; (try dsimp only at hSw); go_simp); all_goals (with_reducible rfl)
      try simp only [Act.put, List.setIfInBounds_toArray, List.set_cons_zero, List.set_cons_succ]
      refine wpAnyH_take (i := 14) (oi := { dst := some 61, op := _, type := _, pos := _, after := _, guard := _ }) (v := ?_) rfl (by kernel_rfl) (by kernel_rfl) (by kernel_rfl) (fun _ _ _ h => h) (Or.inl ⟨by kernel_rfl, ?_⟩) (by assumption) ?_
      rotate_left
      · (intro w hSw; (try dsimp only at hSw); go_simp); all_goals (with_reducible rfl)
      try simp only [Act.put, List.setIfInBounds_toArray, List.set_cons_zero, List.set_cons_succ]
      refine wpAnyH_ready (rs := [11, 15]) (by kernel_rfl) (by simp) ?_
      refine (AllReadyH.cons (o := { dst := none, op := _, type := _, pos := _, after := _, guard := _ }) rfl (fun K hK => ?_) (AllReadyH.cons (o := { dst := none, op := _, type := _, pos := _, after := _, guard := _ }) rfl (fun K hK => ?_) AllReadyH.nil))
      · rw [if_pos (by kernel_rfl)]
        refine wp_store_partN 24 _ _ (by rfl) q (a.kids.length * 3) [.string o.elem.name, .string o.elem.text, .slice ak1 o.kids.length ck1] (by rfl) (by rfl) 24 cur FW9.out.row hsz (by kernel_rfl) (by rfl) (fun W => Fin2 W9 W q g2 a.kids.length (Bs.str a.name) (.slice ak2 a.kids.length ck2) (.slice (some ⟨q, 0, none⟩) (a.kids.length + 1) cap) (.pointer ad) v2 a.solid [.string o.elem.name, .string o.elem.text, .slice ak1 o.kids.length ck1] cur true false) FW9.out.first ?_
        intro z5 hz5
        have Fz5 := Lib.hid hz5
        clear hz5
        refine hK.out _ z5 trivial (fun _ => ?_)
        clear hK K
        try simp only [Act.put]
        refine wpAnyH_ready (rs := [15]) (by kernel_rfl) (by simp) ?_
        refine (AllReadyH.cons (o := { dst := none, op := _, type := _, pos := _, after := _, guard := _ }) rfl (fun K hK => ?_) AllReadyH.nil)
        rw [if_pos (by kernel_rfl)]
        refine wp_store_cellN 22 _ _ (by rfl) g2 2 (.slice (some ⟨q, 0, none⟩) (a.kids.length + 1) cap) (by rfl) (by rfl) (by rfl) 103 (oC (Bs.str a.name) (.slice ak2 a.kids.length ck2) (.pointer ad) v2 a.solid) Fz5.out.box (by exact Nat.le_of_ble_eq_true rfl) (by kernel_rfl) (fun W => Fin2 W9 W q g2 a.kids.length (Bs.str a.name) (.slice ak2 a.kids.length ck2) (.slice (some ⟨q, 0, none⟩) (a.kids.length + 1) cap) (.pointer ad) v2 a.solid [.string o.elem.name, .string o.elem.text, .slice ak1 o.kids.length ck1] cur true true) Fz5.out.second ?_
        intro z6 hz6
        have Fz6 := Lib.hid hz6
        clear hz6
        refine hK.out _ z6 trivial (fun _ => ?_)
        clear hK K
        try simp only [Act.put]
        refine wpAnyH_done (by kernel_rfl) ?_ _
        have hF := HE.out _ Fz6.out
        go_wp2_with fail
        go_end0
        exact ⟨rfl, M3.out.trans hF.1, hF.2⟩
      · rw [if_pos (by kernel_rfl)]
        refine wp_store_cellN 22 _ _ (by rfl) g2 2 (.slice (some ⟨q, 0, none⟩) (a.kids.length + 1) cap) (by rfl) (by rfl) (by rfl) 103 (oC (Bs.str a.name) (.slice ak2 a.kids.length ck2) (.pointer ad) v2 a.solid) FW9.out.box (by exact Nat.le_of_ble_eq_true rfl) (by kernel_rfl) (fun W => Fin2 W9 W q g2 a.kids.length (Bs.str a.name) (.slice ak2 a.kids.length ck2) (.slice (some ⟨q, 0, none⟩) (a.kids.length + 1) cap) (.pointer ad) v2 a.solid [.string o.elem.name, .string o.elem.text, .slice ak1 o.kids.length ck1] cur false true) FW9.out.second ?_
        intro z7 hz7
        have Fz7 := Lib.hid hz7
        clear hz7
        refine hK.out _ z7 trivial (fun _ => ?_)
        clear hK K
        try simp only [Act.put]
        refine wpAnyH_ready (rs := [11]) (by kernel_rfl) (by simp) ?_
        refine (AllReadyH.cons (o := { dst := none, op := _, type := _, pos := _, after := _, guard := _ }) rfl (fun K hK => ?_) AllReadyH.nil)
        rw [if_pos (by kernel_rfl)]
        refine wp_store_partN 24 _ _ (by rfl) q (a.kids.length * 3) [.string o.elem.name, .string o.elem.text, .slice ak1 o.kids.length ck1] (by rfl) (by rfl) 24 cur Fz7.out.row hsz (by kernel_rfl) (by rfl) (fun W => Fin2 W9 W q g2 a.kids.length (Bs.str a.name) (.slice ak2 a.kids.length ck2) (.slice (some ⟨q, 0, none⟩) (a.kids.length + 1) cap) (.pointer ad) v2 a.solid [.string o.elem.name, .string o.elem.text, .slice ak1 o.kids.length ck1] cur true true) Fz7.out.first ?_
        intro z8 hz8
        have Fz8 := Lib.hid hz8
        clear hz8
        refine hK.out _ z8 trivial (fun _ => ?_)
        clear hK K
        try simp only [Act.put]
        refine wpAnyH_done (by kernel_rfl) ?_ _
        have hF := HE.out _ Fz8.out
        go_wp2_with fail
        go_end0
        exact ⟨rfl, M3.out.trans hF.1, hF.2⟩
    · rw [if_pos (by kernel_rfl)]
      go_wp2_with fail
      have Cz9 := Lib.hid (Cz0.out.below_on (below_alloc (Below.refl _ _) (Nat.le_refl _) (.cells #[.string ⟨#[]⟩, .string ⟨#[]⟩, .slice none 0 0] 24)))
      have Bz9 := Lib.hid (below_alloc Bz0.out (Nat.le_refl _) (.cells #[.string ⟨#[]⟩, .string ⟨#[]⟩, .slice none 0 0] 24))
      have HBz9 := Lib.hid (heap_alloc_new z0 (.cells #[.string ⟨#[]⟩, .string ⟨#[]⟩, .slice none 0 0] 24))
      have GA := Lib.hid Cz0.out.size
      refine hK.out _ (z0.alloc (.cells #[.string ⟨#[]⟩, .string ⟨#[]⟩, .slice none 0 0] 24)) trivial (fun _ => ?_)
      generalize z0.alloc (.cells #[.string ⟨#[]⟩, .string ⟨#[]⟩, .slice none 0 0] 24) = z9 at Cz9 HBz9 Bz9 ⊢
      generalize z0.heap.size = gA at HBz9 GA ⊢
      clear hK K
      try simp only [Act.put, List.setIfInBounds_toArray, List.set_cons_zero, List.set_cons_succ]
      refine wpAnyH_ready (rs := [6]) (by kernel_rfl) (by simp) ?_
      refine (AllReadyH.cons (o := { dst := some 54, op := _, type := _, pos := _, after := _, guard := _ }) rfl (fun K hK => ?_) AllReadyH.nil)
      rw [if_pos (by kernel_rfl)]
      refine wp_call_go Tryz.func41 (by kernel_rfl) (by kernel_rfl) (xs := [.tmp 53]) (by rfl) (vs := [.pointer (some ⟨g1, 0, none⟩)]) (elem_any (HCX.out.hO1.below Bz9.out) ht) (by rfl) ?_
      rintro e z10 ⟨rfl, hc⟩
      refine ⟨_, rfl, ?_⟩
      have Cz10 := Lib.hid (Cz9.out.trans hc)
      have HBz10 := Lib.hid ((hc.block gA (Array.getElem?_eq_some_iff.1 HBz9.out).1 (fun h => by have := (HCX.out.hO1.lt_of h).2.1; have := GA.out; omega)).trans HBz9.out)
      clear hc
      refine hK.out _ z10 trivial (fun _ => ?_)
      clear hK K
      try simp only [Act.put, List.setIfInBounds_toArray, List.set_cons_zero, List.set_cons_succ]
      refine wpAnyH_ready (rs := [9]) (by kernel_rfl) (by simp) ?_
      refine (AllReadyH.cons (o := { dst := some 57, op := _, type := _, pos := _, after := _, guard := _ }) rfl (fun K hK => ?_) AllReadyH.nil)
      rw [if_pos (by kernel_rfl)]
      refine wp_append_lies _ _ _ _ (by rfl) (g2 + 1) 24 i0 _ 3 56 Tryz.underlying22 hi0 hz0 hz1 hz2 rfl (by decide) _ a.kids.length xs (by rfl) (HCX.out.own Cz10.out) ⟨gA, 0, none⟩ 1 1 [.string ⟨#[]⟩, .string ⟨#[]⟩, .slice none 0 0] (by rfl) (by rfl) (fun j u hj => by rw [Addr.add_lit, cell_of_heap HBz10.out]; simpa using hj) (by simp [Value.oneCell']) (by decide) (by simp only [maxLen]; omega) (by omega) ((HCX.out.low Cz10.out).1) _ rfl ?_
      intro q cap W9 hown hgr hat hlt3
      obtain ⟨cur, hsz, hF, hE⟩ := HCX.out.mid Cz10.out hown hgr hat
      have HE := Lib.hid hE
      have FW9 := Lib.hid hF
      clear hown hgr hat hlt3 hE hF
      refine hK.out _ W9 trivial (fun _ => ?_)
      clear hK K
      try simp only [Act.put, List.setIfInBounds_toArray, List.set_cons_zero, List.set_cons_succ]
      refine wpAnyH_take (i := 10) (oi := { dst := some 58, op := _, type := _, pos := _, after := _, guard := _ }) (v := ?_) rfl (by kernel_rfl) (by kernel_rfl) (by kernel_rfl) (fun _ _ _ h => h) (Or.inl ⟨by kernel_rfl, ?_⟩) (by assumption) ?_
      rotate_left
      · (intro w hSw; (try dsimp only at hSw); go_simp); all_goals (with_reducible rfl)
      try simp only [Act.put, List.setIfInBounds_toArray, List.set_cons_zero, List.set_cons_succ]
      refine wpAnyH_take (i := 12) (oi := { dst := some 59, op := _, type := _, pos := _, after := _, guard := _ }) (v := ?_) rfl (by kernel_rfl) (by kernel_rfl) (by kernel_rfl) (fun _ _ _ h => h) (Or.inl ⟨by kernel_rfl, ?_⟩) (by assumption) ?_
      rotate_left
      · (intro w hSw; (try dsimp only at hSw); go_simp); all_goals (with_reducible rfl)
      try simp only [Act.put, List.setIfInBounds_toArray, List.set_cons_zero, List.set_cons_succ]
      refine wpAnyH_take (i := 13) (oi := { dst := some 60, op := _, type := _, pos := _, after := _, guard := _ }) (v := ?_) rfl (by kernel_rfl) (by kernel_rfl) (by kernel_rfl) (fun _ _ _ h => h) (Or.inl ⟨by kernel_rfl, ?_⟩) (by assumption) ?_
      rotate_left
      · (intro w hSw; (try dsimp only at hSw); go_simp); all_goals (with_reducible rfl)
      try simp only [Act.put, List.setIfInBounds_toArray, List.set_cons_zero, List.set_cons_succ]
      refine wpAnyH_take (i := 14) (oi := { dst := some 61, op := _, type := _, pos := _, after := _, guard := _ }) (v := ?_) rfl (by kernel_rfl) (by kernel_rfl) (by kernel_rfl) (fun _ _ _ h => h) (Or.inl ⟨by kernel_rfl, ?_⟩) (by assumption) ?_
      rotate_left
      · (intro w hSw; (try dsimp only at hSw); go_simp); all_goals (with_reducible rfl)
      try simp only [Act.put, List.setIfInBounds_toArray, List.set_cons_zero, List.set_cons_succ]
      refine wpAnyH_ready (rs := [11, 15]) (by kernel_rfl) (by simp) ?_
      refine (AllReadyH.cons (o := { dst := none, op := _, type := _, pos := _, after := _, guard := _ }) rfl (fun K hK => ?_) (AllReadyH.cons (o := { dst := none, op := _, type := _, pos := _, after := _, guard := _ }) rfl (fun K hK => ?_) AllReadyH.nil))
      · rw [if_pos (by kernel_rfl)]
        refine wp_store_partN 24 _ _ (by rfl) q (a.kids.length * 3) [.string o.elem.name, .string o.elem.text, .slice ak1 o.kids.length ck1] (by rfl) (by rfl) 24 cur FW9.out.row hsz (by kernel_rfl) (by rfl) (fun W => Fin2 W9 W q g2 a.kids.length (Bs.str a.name) (.slice ak2 a.kids.length ck2) (.slice (some ⟨q, 0, none⟩) (a.kids.length + 1) cap) (.pointer ad) v2 a.solid [.string o.elem.name, .string o.elem.text, .slice ak1 o.kids.length ck1] cur true false) FW9.out.first ?_
        intro z12 hz12
        have Fz12 := Lib.hid hz12
        clear hz12
        refine hK.out _ z12 trivial (fun _ => ?_)
        clear hK K
        try simp only [Act.put]
        refine wpAnyH_ready (rs := [15]) (by kernel_rfl) (by simp) ?_
        refine (AllReadyH.cons (o := { dst := none, op := _, type := _, pos := _, after := _, guard := _ }) rfl (fun K hK => ?_) AllReadyH.nil)
        rw [if_pos (by kernel_rfl)]
        refine wp_store_cellN 22 _ _ (by rfl) g2 2 (.slice (some ⟨q, 0, none⟩) (a.kids.length + 1) cap) (by rfl) (by rfl) (by rfl) 103 (oC (Bs.str a.name) (.slice ak2 a.kids.length ck2) (.pointer ad) v2 a.solid) Fz12.out.box (by exact Nat.le_of_ble_eq_true rfl) (by kernel_rfl) (fun W => Fin2 W9 W q g2 a.kids.length (Bs.str a.name) (.slice ak2 a.kids.length ck2) (.slice (some ⟨q, 0, none⟩) (a.kids.length + 1) cap) (.pointer ad) v2 a.solid [.string o.elem.name, .string o.elem.text, .slice ak1 o.kids.length ck1] cur true true) Fz12.out.second ?_
        intro z13 hz13
        have Fz13 := Lib.hid hz13
        clear hz13
        refine hK.out _ z13 trivial (fun _ => ?_)
        clear hK K
        try simp only [Act.put]
        refine wpAnyH_done (by kernel_rfl) ?_ _
        have hF := HE.out _ Fz13.out
        go_wp2_with fail
        go_end0
        exact ⟨rfl, M3.out.trans hF.1, hF.2⟩
      · rw [if_pos (by kernel_rfl)]
        refine wp_store_cellN 22 _ _ (by rfl) g2 2 (.slice (some ⟨q, 0, none⟩) (a.kids.length + 1) cap) (by rfl) (by rfl) (by rfl) 103 (oC (Bs.str a.name) (.slice ak2 a.kids.length ck2) (.pointer ad) v2 a.solid) FW9.out.box (by exact Nat.le_of_ble_eq_true rfl) (by kernel_rfl) (fun W => Fin2 W9 W q g2 a.kids.length (Bs.str a.name) (.slice ak2 a.kids.length ck2) (.slice (some ⟨q, 0, none⟩) (a.kids.length + 1) cap) (.pointer ad) v2 a.solid [.string o.elem.name, .string o.elem.text, .slice ak1 o.kids.length ck1] cur false true) FW9.out.second ?_
        intro z14 hz14
        have Fz14 := Lib.hid hz14
        clear hz14
        refine hK.out _ z14 trivial (fun _ => ?_)
        clear hK K
        try simp only [Act.put]
        refine wpAnyH_ready (rs := [11]) (by kernel_rfl) (by simp) ?_
        refine (AllReadyH.cons (o := { dst := none, op := _, type := _, pos := _, after := _, guard := _ }) rfl (fun K hK => ?_) AllReadyH.nil)
        rw [if_pos (by kernel_rfl)]
        refine wp_store_partN 24 _ _ (by rfl) q (a.kids.length * 3) [.string o.elem.name, .string o.elem.text, .slice ak1 o.kids.length ck1] (by rfl) (by rfl) 24 cur Fz14.out.row hsz (by kernel_rfl) (by rfl) (fun W => Fin2 W9 W q g2 a.kids.length (Bs.str a.name) (.slice ak2 a.kids.length ck2) (.slice (some ⟨q, 0, none⟩) (a.kids.length + 1) cap) (.pointer ad) v2 a.solid [.string o.elem.name, .string o.elem.text, .slice ak1 o.kids.length ck1] cur true true) Fz14.out.first ?_
        intro z15 hz15
        have Fz15 := Lib.hid hz15
        clear hz15
        refine hK.out _ z15 trivial (fun _ => ?_)
        clear hK K
        try simp only [Act.put]
        refine wpAnyH_done (by kernel_rfl) ?_ _
        have hF := HE.out _ Fz15.out
        go_wp2_with fail
        go_end0
        exact ⟨rfl, M3.out.trans hF.1, hF.2⟩
  · rw [if_pos (by kernel_rfl)]
    refine wp_call_go Tryz.func41 (by kernel_rfl) (by kernel_rfl) (xs := [.tmp 53]) (by rfl) (vs := [.pointer (some ⟨g1, 0, none⟩)]) (elem_any (HCX.out.hO1.below Bz0.out) ht) (by rfl) ?_
    rintro e z16 ⟨rfl, hc⟩
    refine ⟨_, rfl, ?_⟩
    have Cz16 := Lib.hid (Cz0.out.trans hc)
    clear hc
    refine hK.out _ z16 trivial (fun _ => ?_)
    clear hK K
    try simp only [Act.put, List.setIfInBounds_toArray, List.set_cons_zero, List.set_cons_succ]
    refine wpAnyH_ready (rs := [4, 8]) (by kernel_rfl) (by simp) ?_
    refine (AllReadyH.cons (o := { dst := some 52, op := _, type := _, pos := _, after := _, guard := _ }) rfl (fun K hK => ?_) (AllReadyH.cons (o := { dst := some 56, op := _, type := _, pos := _, after := _, guard := _ }) rfl (fun K hK => ?_) AllReadyH.nil))
    · rw [if_pos (by kernel_rfl)]
      have kl := (HCX.out.low Cz16.out).2
      go_wp2_with fail
      clear kl
      refine hK.out _ _ trivial (fun _ => ?_)
      clear hK K
      try simp only [Act.put, List.setIfInBounds_toArray, List.set_cons_zero, List.set_cons_succ]
      refine wpAnyH_take (i := 7) (oi := { dst := some 55, op := _, type := _, pos := _, after := _, guard := _ }) (v := ?_) rfl (by kernel_rfl) (by kernel_rfl) (by kernel_rfl) (fun _ _ _ h => h) (Or.inl ⟨by kernel_rfl, ?_⟩) (by assumption) ?_
      rotate_left
      · (intro w hSw; (try dsimp only at hSw); go_simp); all_goals (with_reducible rfl)
      try simp only [Act.put, List.setIfInBounds_toArray, List.set_cons_zero, List.set_cons_succ]
      refine wpAnyH_ready (rs := [8]) (by kernel_rfl) (by simp) ?_
      refine (AllReadyH.cons (o := { dst := some 56, op := _, type := _, pos := _, after := _, guard := _ }) rfl (fun K hK => ?_) AllReadyH.nil)
      rw [if_pos (by kernel_rfl)]
      go_wp2_with fail
      have Cz18 := Lib.hid (Cz16.out.below_on (below_alloc (Below.refl _ _) (Nat.le_refl _) (.cells #[.string ⟨#[]⟩, .string ⟨#[]⟩, .slice none 0 0] 24)))
      have HBz18 := Lib.hid (heap_alloc_new z16 (.cells #[.string ⟨#[]⟩, .string ⟨#[]⟩, .slice none 0 0] 24))
      have GA := Lib.hid Cz16.out.size
      refine hK.out _ (z16.alloc (.cells #[.string ⟨#[]⟩, .string ⟨#[]⟩, .slice none 0 0] 24)) trivial (fun _ => ?_)
      generalize z16.alloc (.cells #[.string ⟨#[]⟩, .string ⟨#[]⟩, .slice none 0 0] 24) = z18 at Cz18 HBz18  ⊢
      generalize z16.heap.size = gA at HBz18 GA ⊢
      clear hK K
      try simp only [Act.put, List.setIfInBounds_toArray, List.set_cons_zero, List.set_cons_succ]
      refine wpAnyH_ready (rs := [9]) (by kernel_rfl) (by simp) ?_
      refine (AllReadyH.cons (o := { dst := some 57, op := _, type := _, pos := _, after := _, guard := _ }) rfl (fun K hK => ?_) AllReadyH.nil)
      rw [if_pos (by kernel_rfl)]
      refine wp_append_lies _ _ _ _ (by rfl) (g2 + 1) 24 i0 _ 3 56 Tryz.underlying22 hi0 hz0 hz1 hz2 rfl (by decide) _ a.kids.length xs (by rfl) (HCX.out.own Cz18.out) ⟨gA, 0, none⟩ 1 1 [.string ⟨#[]⟩, .string ⟨#[]⟩, .slice none 0 0] (by rfl) (by rfl) (fun j u hj => by rw [Addr.add_lit, cell_of_heap HBz18.out]; simpa using hj) (by simp [Value.oneCell']) (by decide) (by simp only [maxLen]; omega) (by omega) ((HCX.out.low Cz18.out).1) _ rfl ?_
      intro q cap W9 hown hgr hat hlt3
      obtain ⟨cur, hsz, hF, hE⟩ := HCX.out.mid Cz18.out hown hgr hat
      have HE := Lib.hid hE
      have FW9 := Lib.hid hF
      clear hown hgr hat hlt3 hE hF
      refine hK.out _ W9 trivial (fun _ => ?_)
      clear hK K
      try simp only [Act.put, List.setIfInBounds_toArray, List.set_cons_zero, List.set_cons_succ]
      refine wpAnyH_take (i := 10) (oi := { dst := some 58, op := _, type := _, pos := _, after := _, guard := _ }) (v := ?_) rfl (by kernel_rfl) (by kernel_rfl) (by kernel_rfl) (fun _ _ _ h => h) (Or.inl ⟨by kernel_rfl, ?_⟩) (by assumption) ?_
      rotate_left
      · (intro w hSw; (try dsimp only at hSw); go_simp); all_goals (with_reducible rfl)
      try simp only [Act.put, List.setIfInBounds_toArray, List.set_cons_zero, List.set_cons_succ]
      refine wpAnyH_take (i := 12) (oi := { dst := some 59, op := _, type := _, pos := _, after := _, guard := _ }) (v := ?_) rfl (by kernel_rfl) (by kernel_rfl) (by kernel_rfl) (fun _ _ _ h => h) (Or.inl ⟨by kernel_rfl, ?_⟩) (by assumption) ?_
      rotate_left
      · (intro w hSw; (try dsimp only at hSw); go_simp); all_goals (with_reducible rfl)
      try simp only [Act.put, List.setIfInBounds_toArray, List.set_cons_zero, List.set_cons_succ]
      refine wpAnyH_take (i := 13) (oi := { dst := some 60, op := _, type := _, pos := _, after := _, guard := _ }) (v := ?_) rfl (by kernel_rfl) (by kernel_rfl) (by kernel_rfl) (fun _ _ _ h => h) (Or.inl ⟨by kernel_rfl, ?_⟩) (by assumption) ?_
      rotate_left
      · (intro w hSw; (try dsimp only at hSw); go_simp); all_goals (with_reducible rfl)
      try simp only [Act.put, List.setIfInBounds_toArray, List.set_cons_zero, List.set_cons_succ]
      refine wpAnyH_take (i := 14) (oi := { dst := some 61, op := _, type := _, pos := _, after := _, guard := _ }) (v := ?_) rfl (by kernel_rfl) (by kernel_rfl) (by kernel_rfl) (fun _ _ _ h => h) (Or.inl ⟨by kernel_rfl, ?_⟩) (by assumption) ?_
      rotate_left
      · (intro w hSw; (try dsimp only at hSw); go_simp); all_goals (with_reducible rfl)
      try simp only [Act.put, List.setIfInBounds_toArray, List.set_cons_zero, List.set_cons_succ]
      refine wpAnyH_ready (rs := [11, 15]) (by kernel_rfl) (by simp) ?_
      refine (AllReadyH.cons (o := { dst := none, op := _, type := _, pos := _, after := _, guard := _ }) rfl (fun K hK => ?_) (AllReadyH.cons (o := { dst := none, op := _, type := _, pos := _, after := _, guard := _ }) rfl (fun K hK => ?_) AllReadyH.nil))
      · rw [if_pos (by kernel_rfl)]
        refine wp_store_partN 24 _ _ (by rfl) q (a.kids.length * 3) [.string o.elem.name, .string o.elem.text, .slice ak1 o.kids.length ck1] (by rfl) (by rfl) 24 cur FW9.out.row hsz (by kernel_rfl) (by rfl) (fun W => Fin2 W9 W q g2 a.kids.length (Bs.str a.name) (.slice ak2 a.kids.length ck2) (.slice (some ⟨q, 0, none⟩) (a.kids.length + 1) cap) (.pointer ad) v2 a.solid [.string o.elem.name, .string o.elem.text, .slice ak1 o.kids.length ck1] cur true false) FW9.out.first ?_
        intro z20 hz20
        have Fz20 := Lib.hid hz20
        clear hz20
        refine hK.out _ z20 trivial (fun _ => ?_)
        clear hK K
        try simp only [Act.put]
        refine wpAnyH_ready (rs := [15]) (by kernel_rfl) (by simp) ?_
        refine (AllReadyH.cons (o := { dst := none, op := _, type := _, pos := _, after := _, guard := _ }) rfl (fun K hK => ?_) AllReadyH.nil)
        rw [if_pos (by kernel_rfl)]
        refine wp_store_cellN 22 _ _ (by rfl) g2 2 (.slice (some ⟨q, 0, none⟩) (a.kids.length + 1) cap) (by rfl) (by rfl) (by rfl) 103 (oC (Bs.str a.name) (.slice ak2 a.kids.length ck2) (.pointer ad) v2 a.solid) Fz20.out.box (by exact Nat.le_of_ble_eq_true rfl) (by kernel_rfl) (fun W => Fin2 W9 W q g2 a.kids.length (Bs.str a.name) (.slice ak2 a.kids.length ck2) (.slice (some ⟨q, 0, none⟩) (a.kids.length + 1) cap) (.pointer ad) v2 a.solid [.string o.elem.name, .string o.elem.text, .slice ak1 o.kids.length ck1] cur true true) Fz20.out.second ?_
        intro z21 hz21
        have Fz21 := Lib.hid hz21
        clear hz21
        refine hK.out _ z21 trivial (fun _ => ?_)
        clear hK K
        try simp only [Act.put]
        refine wpAnyH_done (by kernel_rfl) ?_ _
        have hF := HE.out _ Fz21.out
        go_wp2_with fail
        go_end0
        exact ⟨rfl, M3.out.trans hF.1, hF.2⟩
      · rw [if_pos (by kernel_rfl)]
        refine wp_store_cellN 22 _ _ (by rfl) g2 2 (.slice (some ⟨q, 0, none⟩) (a.kids.length + 1) cap) (by rfl) (by rfl) (by rfl) 103 (oC (Bs.str a.name) (.slice ak2 a.kids.length ck2) (.pointer ad) v2 a.solid) FW9.out.box (by exact Nat.le_of_ble_eq_true rfl) (by kernel_rfl) (fun W => Fin2 W9 W q g2 a.kids.length (Bs.str a.name) (.slice ak2 a.kids.length ck2) (.slice (some ⟨q, 0, none⟩) (a.kids.length + 1) cap) (.pointer ad) v2 a.solid [.string o.elem.name, .string o.elem.text, .slice ak1 o.kids.length ck1] cur false true) FW9.out.second ?_
        intro z22 hz22
        have Fz22 := Lib.hid hz22
        clear hz22
        refine hK.out _ z22 trivial (fun _ => ?_)
        clear hK K
        try simp only [Act.put]
        refine wpAnyH_ready (rs := [11]) (by kernel_rfl) (by simp) ?_
        refine (AllReadyH.cons (o := { dst := none, op := _, type := _, pos := _, after := _, guard := _ }) rfl (fun K hK => ?_) AllReadyH.nil)
        rw [if_pos (by kernel_rfl)]
        refine wp_store_partN 24 _ _ (by rfl) q (a.kids.length * 3) [.string o.elem.name, .string o.elem.text, .slice ak1 o.kids.length ck1] (by rfl) (by rfl) 24 cur Fz22.out.row hsz (by kernel_rfl) (by rfl) (fun W => Fin2 W9 W q g2 a.kids.length (Bs.str a.name) (.slice ak2 a.kids.length ck2) (.slice (some ⟨q, 0, none⟩) (a.kids.length + 1) cap) (.pointer ad) v2 a.solid [.string o.elem.name, .string o.elem.text, .slice ak1 o.kids.length ck1] cur true true) Fz22.out.first ?_
        intro z23 hz23
        have Fz23 := Lib.hid hz23
        clear hz23
        refine hK.out _ z23 trivial (fun _ => ?_)
        clear hK K
        try simp only [Act.put]
        refine wpAnyH_done (by kernel_rfl) ?_ _
        have hF := HE.out _ Fz23.out
        go_wp2_with fail
        go_end0
        exact ⟨rfl, M3.out.trans hF.1, hF.2⟩
    · rw [if_pos (by kernel_rfl)]
      go_wp2_with fail
      have Cz24 := Lib.hid (Cz16.out.below_on (below_alloc (Below.refl _ _) (Nat.le_refl _) (.cells #[.string ⟨#[]⟩, .string ⟨#[]⟩, .slice none 0 0] 24)))
      have HBz24 := Lib.hid (heap_alloc_new z16 (.cells #[.string ⟨#[]⟩, .string ⟨#[]⟩, .slice none 0 0] 24))
      have GA := Lib.hid Cz16.out.size
      refine hK.out _ (z16.alloc (.cells #[.string ⟨#[]⟩, .string ⟨#[]⟩, .slice none 0 0] 24)) trivial (fun _ => ?_)
      generalize z16.alloc (.cells #[.string ⟨#[]⟩, .string ⟨#[]⟩, .slice none 0 0] 24) = z24 at Cz24 HBz24  ⊢
      generalize z16.heap.size = gA at HBz24 GA ⊢
      clear hK K
      try simp only [Act.put, List.setIfInBounds_toArray, List.set_cons_zero, List.set_cons_succ]
      refine wpAnyH_ready (rs := [4]) (by kernel_rfl) (by simp) ?_
      refine (AllReadyH.cons (o := { dst := some 52, op := _, type := _, pos := _, after := _, guard := _ }) rfl (fun K hK => ?_) AllReadyH.nil)
      rw [if_pos (by kernel_rfl)]
      have kl := (HCX.out.low Cz24.out).2
      go_wp2_with fail
      clear kl
      refine hK.out _ _ trivial (fun _ => ?_)
      clear hK K
      try simp only [Act.put, List.setIfInBounds_toArray, List.set_cons_zero, List.set_cons_succ]
      refine wpAnyH_take (i := 7) (oi := { dst := some 55, op := _, type := _, pos := _, after := _, guard := _ }) (v := ?_) rfl (by kernel_rfl) (by kernel_rfl) (by kernel_rfl) (fun _ _ _ h => h) (Or.inl ⟨by kernel_rfl, ?_⟩) (by assumption) ?_
      rotate_left
      · (intro w hSw; (try dsimp only at hSw); go_simp); all_goals (with_reducible rfl)
      try simp only [Act.put, List.setIfInBounds_toArray, List.set_cons_zero, List.set_cons_succ]
      refine wpAnyH_ready (rs := [9]) (by kernel_rfl) (by simp) ?_
      refine (AllReadyH.cons (o := { dst := some 57, op := _, type := _, pos := _, after := _, guard := _ }) rfl (fun K hK => ?_) AllReadyH.nil)
      rw [if_pos (by kernel_rfl)]
      refine wp_append_lies _ _ _ _ (by rfl) (g2 + 1) 24 i0 _ 3 56 Tryz.underlying22 hi0 hz0 hz1 hz2 rfl (by decide) _ a.kids.length xs (by rfl) (HCX.out.own Cz24.out) ⟨gA, 0, none⟩ 1 1 [.string ⟨#[]⟩, .string ⟨#[]⟩, .slice none 0 0] (by rfl) (by rfl) (fun j u hj => by rw [Addr.add_lit, cell_of_heap HBz24.out]; simpa using hj) (by simp [Value.oneCell']) (by decide) (by simp only [maxLen]; omega) (by omega) ((HCX.out.low Cz24.out).1) _ rfl ?_
      intro q cap W9 hown hgr hat hlt3
      obtain ⟨cur, hsz, hF, hE⟩ := HCX.out.mid Cz24.out hown hgr hat
      have HE := Lib.hid hE
      have FW9 := Lib.hid hF
      clear hown hgr hat hlt3 hE hF
      refine hK.out _ W9 trivial (fun _ => ?_)
      clear hK K
      try simp only [Act.put, List.setIfInBounds_toArray, List.set_cons_zero, List.set_cons_succ]
      refine wpAnyH_take (i := 10) (oi := { dst := some 58, op := _, type := _, pos := _, after := _, guard := _ }) (v := ?_) rfl (by kernel_rfl) (by kernel_rfl) (by kernel_rfl) (fun _ _ _ h => h) (Or.inl ⟨by kernel_rfl, ?_⟩) (by assumption) ?_
      rotate_left
      · (intro w hSw; (try dsimp only at hSw); go_simp); all_goals (with_reducible rfl)
      try simp only [Act.put, List.setIfInBounds_toArray, List.set_cons_zero, List.set_cons_succ]
      refine wpAnyH_take (i := 12) (oi := { dst := some 59, op := _, type := _, pos := _, after := _, guard := _ }) (v := ?_) rfl (by kernel_rfl) (by kernel_rfl) (by kernel_rfl) (fun _ _ _ h => h) (Or.inl ⟨by kernel_rfl, ?_⟩) (by assumption) ?_
      rotate_left
      · (intro w hSw; (try dsimp only at hSw); go_simp); all_goals (with_reducible rfl)
      try simp only [Act.put, List.setIfInBounds_toArray, List.set_cons_zero, List.set_cons_succ]
      refine wpAnyH_take (i := 13) (oi := { dst := some 60, op := _, type := _, pos := _, after := _, guard := _ }) (v := ?_) rfl (by kernel_rfl) (by kernel_rfl) (by kernel_rfl) (fun _ _ _ h => h) (Or.inl ⟨by kernel_rfl, ?_⟩) (by assumption) ?_
      rotate_left
      · (intro w hSw; (try dsimp only at hSw); go_simp); all_goals (with_reducible rfl)
      try simp only [Act.put, List.setIfInBounds_toArray, List.set_cons_zero, List.set_cons_succ]
      refine wpAnyH_take (i := 14) (oi := { dst := some 61, op := _, type := _, pos := _, after := _, guard := _ }) (v := ?_) rfl (by kernel_rfl) (by kernel_rfl) (by kernel_rfl) (fun _ _ _ h => h) (Or.inl ⟨by kernel_rfl, ?_⟩) (by assumption) ?_
      rotate_left
      · (intro w hSw; (try dsimp only at hSw); go_simp); all_goals (with_reducible rfl)
      try simp only [Act.put, List.setIfInBounds_toArray, List.set_cons_zero, List.set_cons_succ]
      refine wpAnyH_ready (rs := [11, 15]) (by kernel_rfl) (by simp) ?_
      refine (AllReadyH.cons (o := { dst := none, op := _, type := _, pos := _, after := _, guard := _ }) rfl (fun K hK => ?_) (AllReadyH.cons (o := { dst := none, op := _, type := _, pos := _, after := _, guard := _ }) rfl (fun K hK => ?_) AllReadyH.nil))
      · rw [if_pos (by kernel_rfl)]
        refine wp_store_partN 24 _ _ (by rfl) q (a.kids.length * 3) [.string o.elem.name, .string o.elem.text, .slice ak1 o.kids.length ck1] (by rfl) (by rfl) 24 cur FW9.out.row hsz (by kernel_rfl) (by rfl) (fun W => Fin2 W9 W q g2 a.kids.length (Bs.str a.name) (.slice ak2 a.kids.length ck2) (.slice (some ⟨q, 0, none⟩) (a.kids.length + 1) cap) (.pointer ad) v2 a.solid [.string o.elem.name, .string o.elem.text, .slice ak1 o.kids.length ck1] cur true false) FW9.out.first ?_
        intro z27 hz27
        have Fz27 := Lib.hid hz27
        clear hz27
        refine hK.out _ z27 trivial (fun _ => ?_)
        clear hK K
        try simp only [Act.put]
        refine wpAnyH_ready (rs := [15]) (by kernel_rfl) (by simp) ?_
        refine (AllReadyH.cons (o := { dst := none, op := _, type := _, pos := _, after := _, guard := _ }) rfl (fun K hK => ?_) AllReadyH.nil)
        rw [if_pos (by kernel_rfl)]
        refine wp_store_cellN 22 _ _ (by rfl) g2 2 (.slice (some ⟨q, 0, none⟩) (a.kids.length + 1) cap) (by rfl) (by rfl) (by rfl) 103 (oC (Bs.str a.name) (.slice ak2 a.kids.length ck2) (.pointer ad) v2 a.solid) Fz27.out.box (by exact Nat.le_of_ble_eq_true rfl) (by kernel_rfl) (fun W => Fin2 W9 W q g2 a.kids.length (Bs.str a.name) (.slice ak2 a.kids.length ck2) (.slice (some ⟨q, 0, none⟩) (a.kids.length + 1) cap) (.pointer ad) v2 a.solid [.string o.elem.name, .string o.elem.text, .slice ak1 o.kids.length ck1] cur true true) Fz27.out.second ?_
        intro z28 hz28
        have Fz28 := Lib.hid hz28
        clear hz28
        refine hK.out _ z28 trivial (fun _ => ?_)
        clear hK K
        try simp only [Act.put]
        refine wpAnyH_done (by kernel_rfl) ?_ _
        have hF := HE.out _ Fz28.out
        go_wp2_with fail
        go_end0
        exact ⟨rfl, M3.out.trans hF.1, hF.2⟩
      · rw [if_pos (by kernel_rfl)]
        refine wp_store_cellN 22 _ _ (by rfl) g2 2 (.slice (some ⟨q, 0, none⟩) (a.kids.length + 1) cap) (by rfl) (by rfl) (by rfl) 103 (oC (Bs.str a.name) (.slice ak2 a.kids.length ck2) (.pointer ad) v2 a.solid) FW9.out.box (by exact Nat.le_of_ble_eq_true rfl) (by kernel_rfl) (fun W => Fin2 W9 W q g2 a.kids.length (Bs.str a.name) (.slice ak2 a.kids.length ck2) (.slice (some ⟨q, 0, none⟩) (a.kids.length + 1) cap) (.pointer ad) v2 a.solid [.string o.elem.name, .string o.elem.text, .slice ak1 o.kids.length ck1] cur false true) FW9.out.second ?_
        intro z29 hz29
        have Fz29 := Lib.hid hz29
        clear hz29
        refine hK.out _ z29 trivial (fun _ => ?_)
        clear hK K
        try simp only [Act.put]
        refine wpAnyH_ready (rs := [11]) (by kernel_rfl) (by simp) ?_
        refine (AllReadyH.cons (o := { dst := none, op := _, type := _, pos := _, after := _, guard := _ }) rfl (fun K hK => ?_) AllReadyH.nil)
        rw [if_pos (by kernel_rfl)]
        refine wp_store_partN 24 _ _ (by rfl) q (a.kids.length * 3) [.string o.elem.name, .string o.elem.text, .slice ak1 o.kids.length ck1] (by rfl) (by rfl) 24 cur Fz29.out.row hsz (by kernel_rfl) (by rfl) (fun W => Fin2 W9 W q g2 a.kids.length (Bs.str a.name) (.slice ak2 a.kids.length ck2) (.slice (some ⟨q, 0, none⟩) (a.kids.length + 1) cap) (.pointer ad) v2 a.solid [.string o.elem.name, .string o.elem.text, .slice ak1 o.kids.length ck1] cur true true) Fz29.out.first ?_
        intro z30 hz30
        have Fz30 := Lib.hid hz30
        clear hz30
        refine hK.out _ z30 trivial (fun _ => ?_)
        clear hK K
        try simp only [Act.put]
        refine wpAnyH_done (by kernel_rfl) ?_ _
        have hF := HE.out _ Fz30.out
        go_wp2_with fail
        go_end0
        exact ⟨rfl, M3.out.trans hF.1, hF.2⟩
  · rw [if_pos (by kernel_rfl)]
    go_wp2_with fail
    have Cz31 := Lib.hid (Cz0.out.below_on (below_alloc (Below.refl _ _) (Nat.le_refl _) (.cells #[.string ⟨#[]⟩, .string ⟨#[]⟩, .slice none 0 0] 24)))
    have Bz31 := Lib.hid (below_alloc Bz0.out (Nat.le_refl _) (.cells #[.string ⟨#[]⟩, .string ⟨#[]⟩, .slice none 0 0] 24))
    have HBz31 := Lib.hid (heap_alloc_new z0 (.cells #[.string ⟨#[]⟩, .string ⟨#[]⟩, .slice none 0 0] 24))
    have GA := Lib.hid Cz0.out.size
    refine hK.out _ (z0.alloc (.cells #[.string ⟨#[]⟩, .string ⟨#[]⟩, .slice none 0 0] 24)) trivial (fun _ => ?_)
    generalize z0.alloc (.cells #[.string ⟨#[]⟩, .string ⟨#[]⟩, .slice none 0 0] 24) = z31 at Cz31 HBz31 Bz31 ⊢
    generalize z0.heap.size = gA at HBz31 GA ⊢
    clear hK K
    try simp only [Act.put, List.setIfInBounds_toArray, List.set_cons_zero, List.set_cons_succ]
    refine wpAnyH_ready (rs := [4, 6]) (by kernel_rfl) (by simp) ?_
    refine (AllReadyH.cons (o := { dst := some 52, op := _, type := _, pos := _, after := _, guard := _ }) rfl (fun K hK => ?_) (AllReadyH.cons (o := { dst := some 54, op := _, type := _, pos := _, after := _, guard := _ }) rfl (fun K hK => ?_) AllReadyH.nil))
    · rw [if_pos (by kernel_rfl)]
      have kl := (HCX.out.low Cz31.out).2
      go_wp2_with fail
      clear kl
      refine hK.out _ _ trivial (fun _ => ?_)
      clear hK K
      try simp only [Act.put, List.setIfInBounds_toArray, List.set_cons_zero, List.set_cons_succ]
      refine wpAnyH_take (i := 7) (oi := { dst := some 55, op := _, type := _, pos := _, after := _, guard := _ }) (v := ?_) rfl (by kernel_rfl) (by kernel_rfl) (by kernel_rfl) (fun _ _ _ h => h) (Or.inl ⟨by kernel_rfl, ?_⟩) (by assumption) ?_
      rotate_left
      · (intro w hSw; (try dsimp only at hSw); go_simp); all_goals (with_reducible rfl)
      try simp only [Act.put, List.setIfInBounds_toArray, List.set_cons_zero, List.set_cons_succ]
      refine wpAnyH_ready (rs := [6]) (by kernel_rfl) (by simp) ?_
      refine (AllReadyH.cons (o := { dst := some 54, op := _, type := _, pos := _, after := _, guard := _ }) rfl (fun K hK => ?_) AllReadyH.nil)
      rw [if_pos (by kernel_rfl)]
      refine wp_call_go Tryz.func41 (by kernel_rfl) (by kernel_rfl) (xs := [.tmp 53]) (by rfl) (vs := [.pointer (some ⟨g1, 0, none⟩)]) (elem_any (HCX.out.hO1.below Bz31.out) ht) (by rfl) ?_
      rintro e z33 ⟨rfl, hc⟩
      refine ⟨_, rfl, ?_⟩
      have Cz33 := Lib.hid (Cz31.out.trans hc)
      have HBz33 := Lib.hid ((hc.block gA (Array.getElem?_eq_some_iff.1 HBz31.out).1 (fun h => by have := (HCX.out.hO1.lt_of h).2.1; have := GA.out; omega)).trans HBz31.out)
      clear hc
      refine hK.out _ z33 trivial (fun _ => ?_)
      clear hK K
      try simp only [Act.put, List.setIfInBounds_toArray, List.set_cons_zero, List.set_cons_succ]
      refine wpAnyH_ready (rs := [9]) (by kernel_rfl) (by simp) ?_
      refine (AllReadyH.cons (o := { dst := some 57, op := _, type := _, pos := _, after := _, guard := _ }) rfl (fun K hK => ?_) AllReadyH.nil)
      rw [if_pos (by kernel_rfl)]
      refine wp_append_lies _ _ _ _ (by rfl) (g2 + 1) 24 i0 _ 3 56 Tryz.underlying22 hi0 hz0 hz1 hz2 rfl (by decide) _ a.kids.length xs (by rfl) (HCX.out.own Cz33.out) ⟨gA, 0, none⟩ 1 1 [.string ⟨#[]⟩, .string ⟨#[]⟩, .slice none 0 0] (by rfl) (by rfl) (fun j u hj => by rw [Addr.add_lit, cell_of_heap HBz33.out]; simpa using hj) (by simp [Value.oneCell']) (by decide) (by simp only [maxLen]; omega) (by omega) ((HCX.out.low Cz33.out).1) _ rfl ?_
      intro q cap W9 hown hgr hat hlt3
      obtain ⟨cur, hsz, hF, hE⟩ := HCX.out.mid Cz33.out hown hgr hat
      have HE := Lib.hid hE
      have FW9 := Lib.hid hF
      clear hown hgr hat hlt3 hE hF
      refine hK.out _ W9 trivial (fun _ => ?_)
      clear hK K
      try simp only [Act.put, List.setIfInBounds_toArray, List.set_cons_zero, List.set_cons_succ]
      refine wpAnyH_take (i := 10) (oi := { dst := some 58, op := _, type := _, pos := _, after := _, guard := _ }) (v := ?_) rfl (by kernel_rfl) (by kernel_rfl) (by kernel_rfl) (fun _ _ _ h => h) (Or.inl ⟨by kernel_rfl, ?_⟩) (by assumption) ?_
      rotate_left
      · (intro w hSw; (try dsimp only at hSw); go_simp); all_goals (with_reducible rfl)
      try simp only [Act.put, List.setIfInBounds_toArray, List.set_cons_zero, List.set_cons_succ]
      refine wpAnyH_take (i := 12) (oi := { dst := some 59, op := _, type := _, pos := _, after := _, guard := _ }) (v := ?_) rfl (by kernel_rfl) (by kernel_rfl) (by kernel_rfl) (fun _ _ _ h => h) (Or.inl ⟨by kernel_rfl, ?_⟩) (by assumption) ?_
      rotate_left
      · (intro w hSw; (try dsimp only at hSw); go_simp); all_goals (with_reducible rfl)
      try simp only [Act.put, List.setIfInBounds_toArray, List.set_cons_zero, List.set_cons_succ]
      refine wpAnyH_take (i := 13) (oi := { dst := some 60, op := _, type := _, pos := _, after := _, guard := _ }) (v := ?_) rfl (by kernel_rfl) (by kernel_rfl) (by kernel_rfl) (fun _ _ _ h => h) (Or.inl ⟨by kernel_rfl, ?_⟩) (by assumption) ?_
      rotate_left
      · (intro w hSw; (try dsimp only at hSw); go_simp); all_goals (with_reducible rfl)
      try simp only [Act.put, List.setIfInBounds_toArray, List.set_cons_zero, List.set_cons_succ]
      refine wpAnyH_take (i := 14) (oi := { dst := some 61, op := _, type := _, pos := _, after := _, guard := _ }) (v := ?_) rfl (by kernel_rfl) (by kernel_rfl) (by kernel_rfl) (fun _ _ _ h => h) (Or.inl ⟨by kernel_rfl, ?_⟩) (by assumption) ?_
      rotate_left
      · (intro w hSw; (try dsimp only at hSw); go_simp); all_goals (with_reducible rfl)
      try simp only [Act.put, List.setIfInBounds_toArray, List.set_cons_zero, List.set_cons_succ]
      refine wpAnyH_ready (rs := [11, 15]) (by kernel_rfl) (by simp) ?_
      refine (AllReadyH.cons (o := { dst := none, op := _, type := _, pos := _, after := _, guard := _ }) rfl (fun K hK => ?_) (AllReadyH.cons (o := { dst := none, op := _, type := _, pos := _, after := _, guard := _ }) rfl (fun K hK => ?_) AllReadyH.nil))
      · rw [if_pos (by kernel_rfl)]
        refine wp_store_partN 24 _ _ (by rfl) q (a.kids.length * 3) [.string o.elem.name, .string o.elem.text, .slice ak1 o.kids.length ck1] (by rfl) (by rfl) 24 cur FW9.out.row hsz (by kernel_rfl) (by rfl) (fun W => Fin2 W9 W q g2 a.kids.length (Bs.str a.name) (.slice ak2 a.kids.length ck2) (.slice (some ⟨q, 0, none⟩) (a.kids.length + 1) cap) (.pointer ad) v2 a.solid [.string o.elem.name, .string o.elem.text, .slice ak1 o.kids.length ck1] cur true false) FW9.out.first ?_
        intro z35 hz35
        have Fz35 := Lib.hid hz35
        clear hz35
        refine hK.out _ z35 trivial (fun _ => ?_)
        clear hK K
        try simp only [Act.put]
        refine wpAnyH_ready (rs := [15]) (by kernel_rfl) (by simp) ?_
        refine (AllReadyH.cons (o := { dst := none, op := _, type := _, pos := _, after := _, guard := _ }) rfl (fun K hK => ?_) AllReadyH.nil)
        rw [if_pos (by kernel_rfl)]
        refine wp_store_cellN 22 _ _ (by rfl) g2 2 (.slice (some ⟨q, 0, none⟩) (a.kids.length + 1) cap) (by rfl) (by rfl) (by rfl) 103 (oC (Bs.str a.name) (.slice ak2 a.kids.length ck2) (.pointer ad) v2 a.solid) Fz35.out.box (by exact Nat.le_of_ble_eq_true rfl) (by kernel_rfl) (fun W => Fin2 W9 W q g2 a.kids.length (Bs.str a.name) (.slice ak2 a.kids.length ck2) (.slice (some ⟨q, 0, none⟩) (a.kids.length + 1) cap) (.pointer ad) v2 a.solid [.string o.elem.name, .string o.elem.text, .slice ak1 o.kids.length ck1] cur true true) Fz35.out.second ?_
        intro z36 hz36
        have Fz36 := Lib.hid hz36
        clear hz36
        refine hK.out _ z36 trivial (fun _ => ?_)
        clear hK K
        try simp only [Act.put]
        refine wpAnyH_done (by kernel_rfl) ?_ _
        have hF := HE.out _ Fz36.out
        go_wp2_with fail
        go_end0
        exact ⟨rfl, M3.out.trans hF.1, hF.2⟩
      · rw [if_pos (by kernel_rfl)]
        refine wp_store_cellN 22 _ _ (by rfl) g2 2 (.slice (some ⟨q, 0, none⟩) (a.kids.length + 1) cap) (by rfl) (by rfl) (by rfl) 103 (oC (Bs.str a.name) (.slice ak2 a.kids.length ck2) (.pointer ad) v2 a.solid) FW9.out.box (by exact Nat.le_of_ble_eq_true rfl) (by kernel_rfl) (fun W => Fin2 W9 W q g2 a.kids.length (Bs.str a.name) (.slice ak2 a.kids.length ck2) (.slice (some ⟨q, 0, none⟩) (a.kids.length + 1) cap) (.pointer ad) v2 a.solid [.string o.elem.name, .string o.elem.text, .slice ak1 o.kids.length ck1] cur false true) FW9.out.second ?_
        intro z37 hz37
        have Fz37 := Lib.hid hz37
        clear hz37
        refine hK.out _ z37 trivial (fun _ => ?_)
        clear hK K
        try simp only [Act.put]
        refine wpAnyH_ready (rs := [11]) (by kernel_rfl) (by simp) ?_
        refine (AllReadyH.cons (o := { dst := none, op := _, type := _, pos := _, after := _, guard := _ }) rfl (fun K hK => ?_) AllReadyH.nil)
        rw [if_pos (by kernel_rfl)]
        refine wp_store_partN 24 _ _ (by rfl) q (a.kids.length * 3) [.string o.elem.name, .string o.elem.text, .slice ak1 o.kids.length ck1] (by rfl) (by rfl) 24 cur Fz37.out.row hsz (by kernel_rfl) (by rfl) (fun W => Fin2 W9 W q g2 a.kids.length (Bs.str a.name) (.slice ak2 a.kids.length ck2) (.slice (some ⟨q, 0, none⟩) (a.kids.length + 1) cap) (.pointer ad) v2 a.solid [.string o.elem.name, .string o.elem.text, .slice ak1 o.kids.length ck1] cur true true) Fz37.out.first ?_
        intro z38 hz38
        have Fz38 := Lib.hid hz38
        clear hz38
        refine hK.out _ z38 trivial (fun _ => ?_)
        clear hK K
        try simp only [Act.put]
        refine wpAnyH_done (by kernel_rfl) ?_ _
        have hF := HE.out _ Fz38.out
        go_wp2_with fail
        go_end0
        exact ⟨rfl, M3.out.trans hF.1, hF.2⟩
    · rw [if_pos (by kernel_rfl)]
      refine wp_call_go Tryz.func41 (by kernel_rfl) (by kernel_rfl) (xs := [.tmp 53]) (by rfl) (vs := [.pointer (some ⟨g1, 0, none⟩)]) (elem_any (HCX.out.hO1.below Bz31.out) ht) (by rfl) ?_
      rintro e z39 ⟨rfl, hc⟩
      refine ⟨_, rfl, ?_⟩
      have Cz39 := Lib.hid (Cz31.out.trans hc)
      have HBz39 := Lib.hid ((hc.block gA (Array.getElem?_eq_some_iff.1 HBz31.out).1 (fun h => by have := (HCX.out.hO1.lt_of h).2.1; have := GA.out; omega)).trans HBz31.out)
      clear hc
      refine hK.out _ z39 trivial (fun _ => ?_)
      clear hK K
      try simp only [Act.put, List.setIfInBounds_toArray, List.set_cons_zero, List.set_cons_succ]
      refine wpAnyH_ready (rs := [4]) (by kernel_rfl) (by simp) ?_
      refine (AllReadyH.cons (o := { dst := some 52, op := _, type := _, pos := _, after := _, guard := _ }) rfl (fun K hK => ?_) AllReadyH.nil)
      rw [if_pos (by kernel_rfl)]
      have kl := (HCX.out.low Cz39.out).2
      go_wp2_with fail
      clear kl
      refine hK.out _ _ trivial (fun _ => ?_)
      clear hK K
      try simp only [Act.put, List.setIfInBounds_toArray, List.set_cons_zero, List.set_cons_succ]
      refine wpAnyH_take (i := 7) (oi := { dst := some 55, op := _, type := _, pos := _, after := _, guard := _ }) (v := ?_) rfl (by kernel_rfl) (by kernel_rfl) (by kernel_rfl) (fun _ _ _ h => h) (Or.inl ⟨by kernel_rfl, ?_⟩) (by assumption) ?_
      rotate_left
      · (intro w hSw; (try dsimp only at hSw); go_simp); all_goals (with_reducible rfl)
      try simp only [Act.put, List.setIfInBounds_toArray, List.set_cons_zero, List.set_cons_succ]
      refine wpAnyH_ready (rs := [9]) (by kernel_rfl) (by simp) ?_
      refine (AllReadyH.cons (o := { dst := some 57, op := _, type := _, pos := _, after := _, guard := _ }) rfl (fun K hK => ?_) AllReadyH.nil)
      rw [if_pos (by kernel_rfl)]
      refine wp_append_lies _ _ _ _ (by rfl) (g2 + 1) 24 i0 _ 3 56 Tryz.underlying22 hi0 hz0 hz1 hz2 rfl (by decide) _ a.kids.length xs (by rfl) (HCX.out.own Cz39.out) ⟨gA, 0, none⟩ 1 1 [.string ⟨#[]⟩, .string ⟨#[]⟩, .slice none 0 0] (by rfl) (by rfl) (fun j u hj => by rw [Addr.add_lit, cell_of_heap HBz39.out]; simpa using hj) (by simp [Value.oneCell']) (by decide) (by simp only [maxLen]; omega) (by omega) ((HCX.out.low Cz39.out).1) _ rfl ?_
      intro q cap W9 hown hgr hat hlt3
      obtain ⟨cur, hsz, hF, hE⟩ := HCX.out.mid Cz39.out hown hgr hat
      have HE := Lib.hid hE
      have FW9 := Lib.hid hF
      clear hown hgr hat hlt3 hE hF
      refine hK.out _ W9 trivial (fun _ => ?_)
      clear hK K
      try simp only [Act.put, List.setIfInBounds_toArray, List.set_cons_zero, List.set_cons_succ]
      refine wpAnyH_take (i := 10) (oi := { dst := some 58, op := _, type := _, pos := _, after := _, guard := _ }) (v := ?_) rfl (by kernel_rfl) (by kernel_rfl) (by kernel_rfl) (fun _ _ _ h => h) (Or.inl ⟨by kernel_rfl, ?_⟩) (by assumption) ?_
      rotate_left
      · (intro w hSw; (try dsimp only at hSw); go_simp); all_goals (with_reducible rfl)
      try simp only [Act.put, List.setIfInBounds_toArray, List.set_cons_zero, List.set_cons_succ]
      refine wpAnyH_take (i := 12) (oi := { dst := some 59, op := _, type := _, pos := _, after := _, guard := _ }) (v := ?_) rfl (by kernel_rfl) (by kernel_rfl) (by kernel_rfl) (fun _ _ _ h => h) (Or.inl ⟨by kernel_rfl, ?_⟩) (by assumption) ?_
      rotate_left
      · (intro w hSw; (try dsimp only at hSw); go_simp); all_goals (with_reducible rfl)
      try simp only [Act.put, List.setIfInBounds_toArray, List.set_cons_zero, List.set_cons_succ]
      refine wpAnyH_take (i := 13) (oi := { dst := some 60, op := _, type := _, pos := _, after := _, guard := _ }) (v := ?_) rfl (by kernel_rfl) (by kernel_rfl) (by kernel_rfl) (fun _ _ _ h => h) (Or.inl ⟨by kernel_rfl, ?_⟩) (by assumption) ?_
      rotate_left
      · (intro w hSw; (try dsimp only at hSw); go_simp); all_goals (with_reducible rfl)
      try simp only [Act.put, List.setIfInBounds_toArray, List.set_cons_zero, List.set_cons_succ]
      refine wpAnyH_take (i := 14) (oi := { dst := some 61, op := _, type := _, pos := _, after := _, guard := _ }) (v := ?_) rfl (by kernel_rfl) (by kernel_rfl) (by kernel_rfl) (fun _ _ _ h => h) (Or.inl ⟨by kernel_rfl, ?_⟩) (by assumption) ?_
      rotate_left
      · (intro w hSw; (try dsimp only at hSw); go_simp); all_goals (with_reducible rfl)
      try simp only [Act.put, List.setIfInBounds_toArray, List.set_cons_zero, List.set_cons_succ]
      refine wpAnyH_ready (rs := [11, 15]) (by kernel_rfl) (by simp) ?_
      refine (AllReadyH.cons (o := { dst := none, op := _, type := _, pos := _, after := _, guard := _ }) rfl (fun K hK => ?_) (AllReadyH.cons (o := { dst := none, op := _, type := _, pos := _, after := _, guard := _ }) rfl (fun K hK => ?_) AllReadyH.nil))
      · rw [if_pos (by kernel_rfl)]
        refine wp_store_partN 24 _ _ (by rfl) q (a.kids.length * 3) [.string o.elem.name, .string o.elem.text, .slice ak1 o.kids.length ck1] (by rfl) (by rfl) 24 cur FW9.out.row hsz (by kernel_rfl) (by rfl) (fun W => Fin2 W9 W q g2 a.kids.length (Bs.str a.name) (.slice ak2 a.kids.length ck2) (.slice (some ⟨q, 0, none⟩) (a.kids.length + 1) cap) (.pointer ad) v2 a.solid [.string o.elem.name, .string o.elem.text, .slice ak1 o.kids.length ck1] cur true false) FW9.out.first ?_
        intro z42 hz42
        have Fz42 := Lib.hid hz42
        clear hz42
        refine hK.out _ z42 trivial (fun _ => ?_)
        clear hK K
        try simp only [Act.put]
        refine wpAnyH_ready (rs := [15]) (by kernel_rfl) (by simp) ?_
        refine (AllReadyH.cons (o := { dst := none, op := _, type := _, pos := _, after := _, guard := _ }) rfl (fun K hK => ?_) AllReadyH.nil)
        rw [if_pos (by kernel_rfl)]
        refine wp_store_cellN 22 _ _ (by rfl) g2 2 (.slice (some ⟨q, 0, none⟩) (a.kids.length + 1) cap) (by rfl) (by rfl) (by rfl) 103 (oC (Bs.str a.name) (.slice ak2 a.kids.length ck2) (.pointer ad) v2 a.solid) Fz42.out.box (by exact Nat.le_of_ble_eq_true rfl) (by kernel_rfl) (fun W => Fin2 W9 W q g2 a.kids.length (Bs.str a.name) (.slice ak2 a.kids.length ck2) (.slice (some ⟨q, 0, none⟩) (a.kids.length + 1) cap) (.pointer ad) v2 a.solid [.string o.elem.name, .string o.elem.text, .slice ak1 o.kids.length ck1] cur true true) Fz42.out.second ?_
        intro z43 hz43
        have Fz43 := Lib.hid hz43
        clear hz43
        refine hK.out _ z43 trivial (fun _ => ?_)
        clear hK K
        try simp only [Act.put]
        refine wpAnyH_done (by kernel_rfl) ?_ _
        have hF := HE.out _ Fz43.out
        go_wp2_with fail
        go_end0
        exact ⟨rfl, M3.out.trans hF.1, hF.2⟩
      · rw [if_pos (by kernel_rfl)]
        refine wp_store_cellN 22 _ _ (by rfl) g2 2 (.slice (some ⟨q, 0, none⟩) (a.kids.length + 1) cap) (by rfl) (by rfl) (by rfl) 103 (oC (Bs.str a.name) (.slice ak2 a.kids.length ck2) (.pointer ad) v2 a.solid) FW9.out.box (by exact Nat.le_of_ble_eq_true rfl) (by kernel_rfl) (fun W => Fin2 W9 W q g2 a.kids.length (Bs.str a.name) (.slice ak2 a.kids.length ck2) (.slice (some ⟨q, 0, none⟩) (a.kids.length + 1) cap) (.pointer ad) v2 a.solid [.string o.elem.name, .string o.elem.text, .slice ak1 o.kids.length ck1] cur false true) FW9.out.second ?_
        intro z44 hz44
        have Fz44 := Lib.hid hz44
        clear hz44
        refine hK.out _ z44 trivial (fun _ => ?_)
        clear hK K
        try simp only [Act.put]
        refine wpAnyH_ready (rs := [11]) (by kernel_rfl) (by simp) ?_
        refine (AllReadyH.cons (o := { dst := none, op := _, type := _, pos := _, after := _, guard := _ }) rfl (fun K hK => ?_) AllReadyH.nil)
        rw [if_pos (by kernel_rfl)]
        refine wp_store_partN 24 _ _ (by rfl) q (a.kids.length * 3) [.string o.elem.name, .string o.elem.text, .slice ak1 o.kids.length ck1] (by rfl) (by rfl) 24 cur Fz44.out.row hsz (by kernel_rfl) (by rfl) (fun W => Fin2 W9 W q g2 a.kids.length (Bs.str a.name) (.slice ak2 a.kids.length ck2) (.slice (some ⟨q, 0, none⟩) (a.kids.length + 1) cap) (.pointer ad) v2 a.solid [.string o.elem.name, .string o.elem.text, .slice ak1 o.kids.length ck1] cur true true) Fz44.out.first ?_
        intro z45 hz45
        have Fz45 := Lib.hid hz45
        clear hz45
        refine hK.out _ z45 trivial (fun _ => ?_)
        clear hK K
        try simp only [Act.put]
        refine wpAnyH_done (by kernel_rfl) ?_ _
        have hF := HE.out _ Fz45.out
        go_wp2_with fail
        go_end0
        exact ⟨rfl, M3.out.trans hF.1, hF.2⟩
end Go.Proofs.YtgmgghbocidibaaGreatDoor
