/-
  xml.Find: the kids of a name, in memory of their own, each apart. (Printed by wip/gen/xwfind.py.)
-/
import Derived.Test.YtgmgghbocidibaaGreatDoorXwTwin
namespace Go.Proofs.YtgmgghbocidibaaGreatDoor.Sep
open Go.RowKit Go.Lib

/-- elements in memory of one's own, in a slice of one's own, each apart -/
structure OwnKs (W : World) (base : Nat) (v : Value) (m : List Tree) : Prop where
  row : ∃ (xs : List Value), W.ownsRow base 24 3 v m.length xs ∧ ∀ g, v.ownBlock = some g → SepKs W g m base W.heap.size xs
theorem OwnKs.nil (W : World) (base : Nat) : OwnKs W base (.slice none 0 0) [] := ⟨[], World.ownsRow_nil _ _ _ _, fun _ h => by cases h⟩
theorem OwnKs.later {W W' : World} {base : Nat} {v : Value} {m : List Tree} (h : OwnKs W base v m) (hb : Below W.heap.size W W') : OwnKs W' base v m := by
  obtain ⟨xs, h1, h2⟩ := h.row
  exact ⟨xs, own_later' h1 hb, fun g hg => (SepKs.kept _ _ _ _ _ (fun b _ hlt _ => hb.block b hlt) (h2 g hg)).high hb.size⟩
theorem OwnKs.base {W : World} {base base' : Nat} {v : Value} {m : List Tree} (h : OwnKs W base v m) (hb : base' ≤ base) : OwnKs W base' v m := by
  obtain ⟨xs, h1, h2⟩ := h.row
  exact ⟨xs, ⟨h1.1, h1.2.imp id fun ⟨g, cap, cur, a, b, c⟩ => ⟨g, cap, cur, a, Nat.le_trans hb b, c⟩⟩, fun g hg => (h2 g hg).low hb⟩
theorem OwnKs.form {W : World} {base : Nat} {v : Value} {m : List Tree} (h : OwnKs W base v m) : ∃ a c, v = .slice a m.length c := by
  obtain ⟨xs, h1, _⟩ := h.row
  exact own_form' h1
/-- one more -/
theorem OwnKs.push {W W3 W4 : World} {base g cap : Nat} {v : Value} {m : List Tree} {k : Tree} {z : Value} (hb : Below W.heap.size W W3) (hbase : base ≤ W.heap.size)
    {xs : List Value} (h1 : W.ownsRow base 24 3 v m.length xs) (h2 : ∀ g, v.ownBlock = some g → SepKs W g m base W.heap.size xs)
    (ho : SepT W3 k W.heap.size W3.heap.size z) (hown : W4.ownsRow base 24 3 (.slice (some ⟨g, 0, none⟩) (m.length + 1) cap) (m.length + 1) (xs ++ [.string k.name, .string k.text, z])) (hg : W3.grownBy W4 v.ownBlock) (hat : v.ownBlock = some g ∨ g = W3.heap.size) :
    OwnKs W4 base (.slice (some ⟨g, 0, none⟩) (m.length + 1) cap) (m ++ [k]) := by
  have hs := hb.size
  have keep : ∀ b, b < W3.heap.size → some b ≠ v.ownBlock → W4.heap[b]? = W3.heap[b]? := fun b h1 h2 => hg.block b h1 h2
  have hlt : ∀ q, v.ownBlock = some q → q < W.heap.size := fun q hq => (h1.lt q hq).2
  have hT : SepT W4 k W.heap.size W3.heap.size z := SepT.kept _ _ _ _ (fun b hl hm => keep b hm (fun e => by have := hlt b e.symm; omega)) ho
  have hK : ∀ q, v.ownBlock = some q → SepKs W4 q m base W.heap.size xs := fun q hq =>
    SepKs.kept _ _ _ _ _ (fun b _ hm hn => (keep b (by omega) (fun e => hn (by rw [← e] at hq; injection hq))).trans (hb.block b hm)) (h2 q hq)
  refine ⟨xs ++ [.string k.name, .string k.text, z], by rw [List.length_append]; exact hown, fun q hq => ?_⟩
  simp only [Value.ownBlock, Option.some.injEq] at hq
  subst hq
  have hx : xs.length = m.length * 3 := h1.1
  rcases hat with h | h
  · exact ((hK g h).snoc hbase hx (Nat.le_refl _) hs hg.size (.inl (hlt g h)) hT)
  · cases hv : v.ownBlock with
    | some q => exact ((SepKs.moved (g' := g) (.inr (by omega)) (hK q hv)).snoc hbase hx (Nat.le_refl _) hs hg.size (.inr (by omega)) hT)
    | none =>
      have hm : m = [] := by
        rcases h1.2 with ⟨_, h0⟩ | ⟨g', cap', cur, h0, _⟩
        · exact List.eq_nil_of_length_eq_zero h0
        · rw [h0] at hv; cases hv
      subst hm
      obtain rfl := List.eq_nil_of_length_eq_zero (l := xs) (by simpa using hx)
      exact SepKs.snoc (ks := []) (xs := []) (lo := base) (mid := W.heap.size) (by unfold SepKs; trivial) hbase rfl (Nat.le_refl _) hs hg.size (.inr (by omega)) hT
def FindOut (ks : List Tree) (nm : Bs) (w : World) (e : Ending) (w' : World) : Prop := ∃ v, e = .returned v ∧ OwnKs w' w.heap.size v (ks.filter (namedX nm)) ∧ Below w.heap.size w w'

set_option maxHeartbeats 4000000 in
set_option maxRecDepth 100000 in
theorem Find_any (t : Tree) (nm : Bs) (a : Option Addr) (c : Nat) (w : World) (h : ElemIn w t a c) :
    Calls Tryz.prog 16 #[.agg (elC t a c), .string ⟨nm.toArray⟩] w (FindOut t.kids nm w) := by
  obtain ⟨i0, hi0, hz0, hz1, hz2⟩ := info_elem
  obtain ⟨-, -, -, -, hkl, a0, c0, he, hK⟩ := h.cells
  injection he with e1 _ e3
  subst e1 e3
  unfold elC
  obtain ⟨W0, hw0⟩ : ∃ W0, w.alloc (.cells #[.string t.name, .string t.text, .slice a t.kids.length c] 24) = W0 := ⟨_, rfl⟩
  have B0 : Below w.heap.size w W0 := by rw [← hw0]; exact below_alloc (Below.refl _ _) (Nat.le_refl _) _
  have X0 : W0.heap[w.heap.size]? = some (.cells #[.string t.name, .string t.text, .slice a t.kids.length c] 24 (0, 0)) := by rw [← hw0]; exact heap_alloc_new _ _
  have k2 : W0.cell? ⟨w.heap.size, 2, none⟩ = some (.slice a t.kids.length c) := cell_at X0 rfl
  have HK := Lib.hid (KidsIn.later B0 _ _ _ hK)
  have HB0 := Lib.hid B0
  generalize t.name = tn at *
  generalize t.text = tt at *
  generalize t.kids = ks at *
  clear h hK X0 B0
  go_enter Tryz.func16, Tryz.ntmps16
  go_wp2_with fail
  clear hw0 k2
  go_loopg [5, 11] ks.length (fun gg s5 s11 wr => ∃ (i : Nat) (v : Value), i ≤ ks.length ∧ ks.length - i ≤ gg ∧ s5 = v ∧ s11 = .int .i64 i ∧ Hid (Below W0.heap.size W0 wr) ∧ Hid (OwnKs wr W0.heap.size v ((ks.take i).filter (namedX nm))))
  case atStart => exact ⟨0, _, Nat.zero_le _, by omega, rfl, rfl, Below.refl _ _, OwnKs.nil _ _⟩
  case round =>
    obtain ⟨i, v, hi, hg, rfl, rfl, HB, HO⟩ := hrel
    by_cases hlt : i < ks.length
    · have hiz : (i : Int) < (ks.length : Int) := by omega
      obtain ⟨k, hik⟩ : ∃ k, ks[i]? = some k := ⟨_, List.getElem?_eq_getElem hlt⟩
      obtain ⟨b, o, a2, c2, rfl, hr, hek⟩ := kid_range (KidsIn.later HB.out _ _ _ HK.out) hik
      have HR := Lib.hid hr
      have HEK := Lib.hid hek
      have HFT := Lib.hid (filter_take (p := namedX nm) hik)
      clear hr hik hek
      go_upto_region 5 with (first
        | (refine wpList_load_mid (by rfl) 24 _ (by rfl) b (o + i * 3) (by rfl) [.string k.name, .string k.text, .slice a2 k.kids.length c2] _ HR.out Tryz.underlying24 rfl (by kernel_rfl) ?_)
        | (refine wpList_store_rowN (by rfl) 24 _ _ (by rfl) wr.heap.size (elC k a2 c2) (by rfl) (by rfl) 24 elemZC (by exact heap_alloc_new _ _) (by kernel_rfl) (by rfl) (by kernel_rfl) (fun W => W.heap[wr.heap.size]? = some (.cells (elC k a2 c2) 24 (0, 0)) ∧ Below wr.heap.size wr W) (by rw [setRow_alloc _ _ _ _ _ rfl]; exact ⟨heap_alloc_new _ _, below_alloc (Below.refl _ _) (Nat.le_refl _) _⟩) ?_; rintro W1 h1))
      have m0 : W1.cell? ⟨wr.heap.size, 0, none⟩ = some (.string ⟨k.name.data.toList.toArray⟩) := by rw [← name_list]; exact cell_at h1.1 rfl
      have HB1 := Lib.hid (HB.out.trans (h1.2.mono HB.out.size))
      have HX1 := Lib.hid h1.1
      have HO1 := Lib.hid (HO.out.later h1.2)
      have HE1 := Lib.hid (HEK.out.later h1.2)
      have HN : Hid (namedX nm k = (k.name.data.toList == nm)) := rfl
      have hml : ((ks.take i).filter (namedX nm)).length ≤ i := by have := List.length_filter_le (namedX nm) (ks.take i); rw [List.length_take] at this; omega
      generalize wr.heap.size = g8 at *
      generalize hkn : k.name.data.toList = kn at *
      generalize (ks.take i).filter (namedX nm) = m at *
      clear h1 HR HO HEK
      by_cases hn : kn = nm
      · have HP : Hid ((ks.take (i + 1)).filter (namedX nm) = m ++ [k]) := by show _ = _; rw [HFT.out, HN.out, hn]; simp
        subst hn
        clear HFT HN
        go_wp2_with (refine wpList_load_row (by rfl) 24 _ (by rfl) g8 (by rfl) 24 (elC k a2 c2) (0, 0) _ (by exact HX1.out) Tryz.underlying24 rfl (by kernel_rfl) ?_)
        refine (twin_any k a2 c2 W1 HE1.out).mono ?_
        rintro e W2 ⟨z, rfl, hz, hb2⟩
        obtain ⟨az, cz, rfl, -⟩ := hz.form
        obtain ⟨av, cv, rfl⟩ := HO1.out.form
        obtain ⟨xs, ho1, ho2⟩ := HO1.out.row
        have HZ := Lib.hid hz
        have HB2 := Lib.hid hb2
        have HO2 := Lib.hid (And.intro ho1 ho2)
        have HBW := Lib.hid (HB1.out.trans (hb2.mono HB1.out.size))
        have hw1 : W0.heap.size ≤ W1.heap.size := HB1.out.size
        clear hz hb2 ho1 ho2 HE1 HX1 m0
        go_wp2_with (at_builtin; refine wpList_append_lies _ (by rfl) _ _ 22 (by rfl) W0.heap.size 24 i0 _ 3 56 Tryz.underlying22 hi0 hz0 hz1 hz2 rfl (by decide) _ m.length xs (by rfl) (own_later' HO2.out.1 (below_alloc HB2.out (Nat.le_refl _) _)) ⟨W2.heap.size, 0, none⟩ 1 1 [.string k.name, .string k.text, .slice az k.kids.length cz] (by rfl) (by rfl) ?c1 ?c2 (by decide) ?c3 ?c4 ?c5 _ rfl ?_)
        case c1 => exact fun j u hj => cells_new _ _ _ _ _ hj
        case c2 => simp [Value.oneCell']
        case c3 => simp only [maxLen]; omega
        case c4 => omega
        case c5 => have := HB2.out.size; simp; omega
        intro g cap W4 hown hgr hat hlt4
        have HOK : Hid (OwnKs W4 W0.heap.size (.slice (some ⟨g, 0, none⟩) (m.length + 1) cap) (m ++ [k])) := by
          have hb3 : Below W1.heap.size W1 (W2.alloc (.cells #[.string k.name, .string k.text, .slice az k.kids.length cz] 24)) := below_alloc HB2.out (Nat.le_refl _) _
          have hb23 : Below W2.heap.size W2 (W2.alloc (.cells #[.string k.name, .string k.text, .slice az k.kids.length cz] 24)) := below_alloc (Below.refl _ _) (Nat.le_refl _) _
          exact OwnKs.push hb3 hw1 HO2.out.1 HO2.out.2 (HZ.out.later hb23) hown hgr (hat.imp id (fun e => by rw [e]; simp))
        have HB4 : Hid (Below W0.heap.size W0 W4) := by
          have h3 : Below W0.heap.size W0 (W2.alloc (.cells #[.string k.name, .string k.text, .slice az k.kids.length cz] 24)) := below_alloc HBW.out (Nat.le_refl _) _
          exact ⟨hgr.os.trans h3.os, hgr.tape.trans h3.tape, hgr.output.trans h3.output, Nat.le_trans h3.size hgr.size, fun b hb => (hgr.block b (Nat.lt_of_lt_of_le hb h3.size) (fun e => by have := (HO2.out.1.lt b e.symm).1; omega)).trans (h3.block b hb)⟩
        clear hown hgr hat
        go_wp2_with fail
        go_roundg (ks.length - (i + 1))
        case measure => omega
        case rel => exact ⟨i + 1, _, by omega, Nat.le_refl _, rfl, by go_num, HB4.out, by rw [HP.out]; exact HOK.out⟩
      · have hnb : (kn == nm) = false := beq_eq_false_iff_ne.2 hn
        have HP : Hid ((ks.take (i + 1)).filter (namedX nm) = m) := by show _ = _; rw [HFT.out, HN.out, hnb]; simp
        clear HFT HN
        go_wp2_with fail
        go_roundg (ks.length - (i + 1))
        case measure => omega
        case rel => exact ⟨i + 1, _, by omega, Nat.le_refl _, rfl, by go_num, HB1.out, by rw [HP.out]; exact HO1.out⟩
    · obtain rfl : i = ks.length := by omega
      have HF := HO
      rw [List.take_length] at HF
      have HE : Hid (Below w.heap.size w wr) := HB0.out.trans (HB.out.mono HB0.out.size)
      go_wp2_with fail
      go_ret
      exact ⟨_, rfl, HF.out.base HB0.out.size, HE.out⟩
end Go.Proofs.YtgmgghbocidibaaGreatDoor.Sep
