/-
  xml's reader: elem: the element, as far as it has come.
-/
import Derived.Test.YtgmgghbocidibaaGreatDoorXmBegin
namespace Go.Proofs.YtgmgghbocidibaaGreatDoor
open Go.RowKit Go.Lib Go.PlainAid

set_option maxHeartbeats 2000000 in
set_option maxRecDepth 100000 in
/-- the text that was written -/
theorem string_any {w : World} {g : Nat} {nm : ByteArray} {kv v : Value} {sd : Bool} {l : Bs} (h : BdAt w g nm kv sd l v) (he : l = [] → v = .slice none 0 0) (hl : l.length ≤ 100000) :
    Calls Tryz.prog 60 #[.pointer (some ⟨g, 3, none⟩)] w fun e w' => e = .returned (.string ⟨l.toArray⟩) ∧ Chg w w' (fun k => some k = v.ownBlock) := by
  obtain ⟨ad, hb, _⟩ := h.box
  have hb' : w.drew.heap[g]? = some (.cells (oC nm kv (.pointer ad) v sd) 103 (0, 0)) := hb
  have c1 : w.drew.cell? ⟨g, 4, none⟩ = some v := cell_at hb' rfl
  by_cases h0 : l = []
  · subst h0
    obtain rfl := he rfl
    have hSD : (Builtin.unsafeSliceData_ #[51] 119 #[.slice none 0 0]).run Tryz.prog w.drew = .ok (.pointer none) w.drew := rfl
    have hUS : (Builtin.unsafeString_ #[119, 3] 9 #[.pointer none, .int .i64 0]).run Tryz.prog w.drew = .ok (.string ⟨#[]⟩) w.drew := rfl
    clear h hb hb' he
    go_enter Tryz.func60, Tryz.ntmps60
    go_wp2
    go_region
    all_goals (go_wp2; go_ret; exact ⟨rfl, Chg.of_below (Below.drew (Below.refl _ _))⟩)
  · have hl0 : l.length ≠ 0 := by simpa using h0
    obtain ⟨q, cap, cur, rfl, hbg, hg, hnc, hcm, hcs, htake⟩ : ∃ g' cap cur, v = .slice (some ⟨g', 0, none⟩) l.length cap ∧ g + 1 ≤ g' ∧ w.heap[g']? = some (.cells cur 5 (0, 0)) ∧ l.length ≤ cap ∧ cap ≤ maxLen ∧ cur.size = cap * 1 ∧ cur.toList.take (l.length * 1) = Lib.byteCells l := by
      rcases h.own.2 with ⟨_, hz⟩ | ⟨g', cap, cur, hv, r⟩
      · exact absurd hz hl0
      · exact ⟨g', cap, cur, hv, r⟩
    have hSD : (Builtin.unsafeSliceData_ #[51] 119 #[.slice (some ⟨q, 0, none⟩) l.length cap]).run Tryz.prog w.drew = .ok (.pointer (some ⟨q, 0, none⟩)) w.drew :=
      Lib.run_unsafeSliceData_row _ _ _ _ _ _ (by omega)
    have hUS : (Builtin.unsafeString_ #[119, 3] 9 #[.pointer (some ⟨q, 0, none⟩), .int .i64 l.length]).run Tryz.prog w.drew = .ok (.string ⟨l.toArray⟩) (w.drew.freeze ⟨q, 0, none⟩ l.length) := by
      refine Lib.run_unsafeString_row w.drew 119 3 9 5 Tryz.underlying119 (by kernel_rfl) q cur.size (by have hg' : w.drew.heap[q]? = some (.cells cur 5 (0, 0)) := hg; simp [World.shape?, hg']) l h0 (by omega) (by unfold maxLen at hcm; omega) ?_
      intro j x hx
      have := h.own.cells (g := q) rfl j (.int .u8 x.toNat) (by simp [Lib.byteCells, hx])
      exact this
    have HF : Hid (Chg w (w.drew.freeze ⟨q, 0, none⟩ l.length) (fun k => some k = (Value.slice (some ⟨q, 0, none⟩) l.length cap).ownBlock)) := by
      have h1 : Below q w (w.drew.freeze ⟨q, 0, none⟩ l.length) := Lib.below_freeze (Below.drew (Below.refl q w)) (p := ⟨q, 0, none⟩) (Nat.le_refl _) _
      refine ⟨h1.os, h1.tape, h1.output, h1.size, fun k hk hn => ?_⟩
      have hne : k ≠ q := fun e => hn (by rw [e]; rfl)
      unfold World.freeze World.drew
      simp [Array.getElem?_modify, Ne.symm hne, h0]
    clear h hb hb' hg htake hnc hcm hcs he
    go_enter Tryz.func60, Tryz.ntmps60
    go_wp2
    go_region
    all_goals (go_wp2; go_ret; exact ⟨rfl, HF.out⟩)

/-- its cells, when its text is told -/
theorem isE_not_open {w : World} {g k : Nat} {cs : Array Value} {t : TypeId} (hg : w.heap[g]? = some (.cells cs t (0, 0))) (ht : t ≠ 24) (hk : IsE w k) : k ≠ g := fun e => by
  subst e
  obtain ⟨cs', hk⟩ := hk
  rw [hg] at hk
  injection hk with hk
  injection hk with _ e _
  exact ht e
theorem isE_not_buf {w : World} {lo k n : Nat} {v : Value} {xs : List Value} (h : w.ownsRow lo 5 1 v n xs) (hk : IsE w k) : some k ≠ v.ownBlock := fun e => by
  rcases h.2 with ⟨rfl, _⟩ | ⟨q, cap, cur, rfl, _, hq, _⟩
  · cases e
  · injection e with e
    simp only at e
    subst e
    exact isE_not_open hq (by decide) hk rfl
/-- how elem ends -/
def ElemOut (o : Opn) (g : Nat) (kv v : Value) (w : World) (e : Ending) (w' : World) : Prop :=
  e = .returned (.agg #[.string o.elem.name, .string o.elem.text, kv]) ∧ Chg w w' (fun k => k = g ∨ some k = v.ownBlock)

set_option maxHeartbeats 4000000 in
set_option maxRecDepth 100000 in
theorem elem_any {w : World} {o : Opn} {g hi : Nat} {kv v : Value} (h : OpIn w o g hi kv v) (hl : o.text.length ≤ 100000) :
    Calls Tryz.prog 41 #[.pointer (some ⟨g, 0, none⟩)] w (ElemOut o g kv v w) := by
  obtain ⟨ak, ck, rfl⟩ := h.kids.form
  obtain ⟨ad, hb, hor⟩ := h.bd.box
  have HX := Lib.hid hb
  have HD := Lib.hid h.bd
  have HE := Lib.hid h.emp
  have hlt := (Array.getElem?_eq_some_iff.1 hb).1
  have HO : Hid (o.elem.name = Bs.str o.name ∧ o.elem.text = Bs.str (if o.kids = [] then o.text else [])) := ⟨rfl, rfl⟩
  clear h hb
  go_enter Tryz.func41, Tryz.ntmps41
  go_upto_region 1 with (fail)
  obtain ⟨W1, hW1⟩ : ∃ W1, w.alloc (.cells elemZC 24) = W1 := ⟨_, rfl⟩
  have hb1 : Below w.heap.size w W1 := by rw [← hW1]; exact below_alloc (Below.refl _ _) (Nat.le_refl _) _
  have X1 : W1.heap[w.heap.size]? = some (.cells elemZC 24 (0, 0)) := by rw [← hW1]; exact heap_alloc_new _ _
  have B1 := Lib.hid hb1
  have G1 := Lib.hid ((hb1.block g hlt).trans HX.out)
  have k2 : W1.cell? ⟨g, 2, none⟩ = some (.slice ak o.kids.length ck) := cell_at G1.out rfl
  unfold elemZC at hW1
  rw [hW1]
  have X1 := Lib.hid X1
  by_cases hk : o.kids = []
  · have hkz : (o.kids.length : Int) = 0 := by rw [hk]; rfl
    have HT : Hid (o.elem.text = Bs.str o.text) := by show _ = _; rw [HO.out.2, if_pos hk]
    clear hW1 hk
    have HS := Lib.hid (string_any (HD.out.kept (M := fun _ => False) (Chg.of_below hb1) id (fun _ _ => id)) HE.out hl)
    clear hb1
    go_wp2_with fail
    refine (HS.out).mono ?_
    rintro e W2 ⟨rfl, h2⟩
    have hvg : v.ownBlock ≠ some g := HD.out.nb
    have G2 := (h2.block g (by have := B1.out.size; omega) (fun e => hvg e.symm)).trans G1.out
    have hvl : ∀ k, v.ownBlock = some k → k < w.heap.size := fun k hk => (HD.out.own.lt k hk).2
    have X2 := (h2.block w.heap.size (Array.getElem?_eq_some_iff.1 X1.out).1 (fun e => by have := hvl _ e.symm; omega)).trans X1.out
    have C2 := Lib.hid ((Chg.of_below (M := fun k => k = g ∨ some k = v.ownBlock) B1.out).trans (h2.mono fun k _ e => .inr e))
    have G2 := Lib.hid G2
    have X2 := Lib.hid X2
    clear h2 k2 HS G1 X1 hvl
    go_upto_region 3 with (refine wpList_store_cellN (by rfl) 9 _ _ (by rfl) g 1 (.string ⟨o.text.toArray⟩) (by rfl) (by rfl) (by rfl) 103 _ (by exact G2.out) (by exact Nat.le_of_ble_eq_true rfl) (by kernel_rfl) (fun W => Chg W2 W (fun k => k = g) ∧ W.heap[g]? = some (.cells #[.string (Bs.str o.name), .string ⟨o.text.toArray⟩, .slice ak o.kids.length ck, .pointer ad, v, .bool o.solid] 103 (0, 0))) (by exact ⟨Chg.setRow_on (Chg.refl _ _) _ rfl, setRow_heap _ _ _ _ _ _ G2.out⟩) ?_; rintro W3 h3)
    have G3 : Hid (W3.rangeAt g 0 [.string (Bs.str o.name), .string ⟨o.text.toArray⟩, .slice ak o.kids.length ck]) := range_of_heap h3.2 (fun j v hj => by
      match j with
      | 0 => exact hj
      | 1 => exact hj
      | 2 => exact hj
      | j + 3 => cases hj)
    have X3 := Lib.hid ((h3.1.block w.heap.size (Array.getElem?_eq_some_iff.1 X2.out).1 (by omega)).trans X2.out)
    have C3 := Lib.hid (C2.out.trans (h3.1.mono fun k _ e => .inl e))
    clear h3 G2 X2 C2
    go_wp2_with (first
      | (refine wpList_load_mid (by rfl) 24 _ (by rfl) g 0 (by rfl) [.string (Bs.str o.name), .string ⟨o.text.toArray⟩, .slice ak o.kids.length ck] _ G3.out Tryz.underlying24 rfl (by kernel_rfl) ?_)
      | (refine wpList_store_rowN (by rfl) 24 _ _ (by rfl) w.heap.size #[.string (Bs.str o.name), .string ⟨o.text.toArray⟩, .slice ak o.kids.length ck] (by rfl) (by rfl) 24 elemZC (by exact X3.out) (by kernel_rfl) (by rfl) (by kernel_rfl) (fun W => W.heap[w.heap.size]? = some (.cells #[.string (Bs.str o.name), .string ⟨o.text.toArray⟩, .slice ak o.kids.length ck] 24 (0, 0)) ∧ Chg W3 W (fun k => k = w.heap.size)) (by exact ⟨setRow_heap _ _ _ _ _ _ X3.out, Chg.setRow_on (Chg.refl _ _) _ rfl⟩) ?_; rintro W4 h4))
    refine bodyPost_ret (results_cell_row rfl _ _ w.heap.size 24 _ _ _ rfl h4.1 Tryz.underlying24 rfl (by kernel_rfl)) rfl ?_
    refine ⟨by rw [HO.out.1, HT.out]; try rfl, ?_⟩
    have h5 := h4.2
    exact ⟨h5.os.trans C3.out.os, h5.tape.trans C3.out.tape, h5.output.trans C3.out.output, Nat.le_trans C3.out.size h5.size, fun k hk hn => (h5.block k (Nat.lt_of_lt_of_le hk C3.out.size) (by show k ≠ w.heap.size; omega)).trans (C3.out.block k hk hn)⟩
  · have hkz : ¬ (o.kids.length : Int) = 0 := by have := List.length_pos_iff.2 hk; omega
    have HT : Hid (o.elem.text = Bs.str []) := by show _ = _; rw [HO.out.2, if_neg hk]
    have G3 : Hid (W1.rangeAt g 0 [.string (Bs.str o.name), .string ⟨#[]⟩, .slice ak o.kids.length ck]) := range_of_heap G1.out (fun j v hj => by
      match j with
      | 0 => exact hj
      | 1 => exact hj
      | 2 => exact hj
      | j + 3 => cases hj)
    have C3 : Hid (Chg w W1 (fun k => k = g ∨ some k = v.ownBlock)) := Chg.of_below hb1
    have X3 := X1
    obtain ⟨W3, hW3⟩ : ∃ W3, W1 = W3 := ⟨_, rfl⟩
    clear hW1 hk hb1
    subst hW3
    go_wp2_with (first
      | (refine wpList_load_mid (by rfl) 24 _ (by rfl) g 0 (by rfl) [.string (Bs.str o.name), .string ⟨#[]⟩, .slice ak o.kids.length ck] _ G3.out Tryz.underlying24 rfl (by kernel_rfl) ?_)
      | (refine wpList_store_rowN (by rfl) 24 _ _ (by rfl) w.heap.size #[.string (Bs.str o.name), .string ⟨#[]⟩, .slice ak o.kids.length ck] (by rfl) (by rfl) 24 elemZC (by exact X3.out) (by kernel_rfl) (by rfl) (by kernel_rfl) (fun W => W.heap[w.heap.size]? = some (.cells #[.string (Bs.str o.name), .string ⟨#[]⟩, .slice ak o.kids.length ck] 24 (0, 0)) ∧ Chg W1 W (fun k => k = w.heap.size)) (by exact ⟨setRow_heap _ _ _ _ _ _ X3.out, Chg.setRow_on (Chg.refl _ _) _ rfl⟩) ?_; rintro W4 h4))
    refine bodyPost_ret (results_cell_row rfl _ _ w.heap.size 24 _ _ _ rfl h4.1 Tryz.underlying24 rfl (by kernel_rfl)) rfl ?_
    refine ⟨by rw [HO.out.1, HT.out]; try rfl, ?_⟩
    have h5 := h4.2
    exact ⟨h5.os.trans C3.out.os, h5.tape.trans C3.out.tape, h5.output.trans C3.out.output, Nat.le_trans C3.out.size h5.size, fun k hk hn => (h5.block k (Nat.lt_of_lt_of_le hk C3.out.size) (by show k ≠ w.heap.size; omega)).trans (C3.out.block k hk hn)⟩
end Go.Proofs.YtgmgghbocidibaaGreatDoor
