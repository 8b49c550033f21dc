/-
  xml.Find: the kids of a name, in memory of their own.
-/
import Derived.Test.YtgmgghbocidibaaGreatDoorXmTwin
namespace Go.Proofs.YtgmgghbocidibaaGreatDoor
open Go.RowKit Go.Lib

/-- elements in memory of one's own, in a slice of one's own -/
structure OwnKs (W : World) (base : Nat) (v : Value) (m : List Tree) : Prop where
  row : ∃ (xs : List Value) (ok : Nat → Prop), W.ownsRow base 24 3 v m.length xs ∧ RowOf W ok m xs ∧ ∀ b, ok b → base ≤ b ∧ b < W.heap.size ∧ some b ≠ v.ownBlock
theorem OwnKs.nil (W : World) (base : Nat) : OwnKs W base (.slice none 0 0) [] := ⟨[], fun _ => False, World.ownsRow_nil _ _ _ _, rfl, fun b h => h.elim⟩
theorem own_later' {w w' : World} {base : Nat} {e : TypeId} {sz : Nat} {v : Value} {n : Nat} {xs : List Value} (h : w.ownsRow base e sz v n xs) (hb : Below w.heap.size w w') : w'.ownsRow base e sz v n xs := by
  refine ⟨h.1, ?_⟩
  rcases h.2 with h1 | ⟨g, cap, cur, rfl, hg, hh, r⟩
  · exact .inl h1
  · exact .inr ⟨g, cap, cur, rfl, hg, (hb.block _ (Array.getElem?_eq_some_iff.1 hh).1).trans hh, r⟩
theorem OwnKs.later {W W' : World} {base : Nat} {v : Value} {m : List Tree} (h : OwnKs W base v m) (hb : Below W.heap.size W W') : OwnKs W' base v m := by
  obtain ⟨xs, ok, h1, h2, h3⟩ := h.row
  exact ⟨xs, ok, own_later' h1 hb, RowOf.kept (fun b hlt _ => hb.block b hlt) (fun _ _ h => h) h2, fun b hb' => ⟨(h3 b hb').1, Nat.lt_of_lt_of_le (h3 b hb').2.1 hb.size, (h3 b hb').2.2⟩⟩
theorem OwnKs.base {W : World} {base base' : Nat} {v : Value} {m : List Tree} (h : OwnKs W base v m) (hb : base' ≤ base) : OwnKs W base' v m := by
  obtain ⟨xs, ok, h1, h2, h3⟩ := h.row
  exact ⟨xs, ok, ⟨h1.1, h1.2.imp id fun ⟨g, cap, cur, a, b, c⟩ => ⟨g, cap, cur, a, Nat.le_trans hb b, c⟩⟩, h2, fun b hb' => ⟨Nat.le_trans hb (h3 b hb').1, (h3 b hb').2⟩⟩
theorem OwnKs.form {W : World} {base : Nat} {v : Value} {m : List Tree} (h : OwnKs W base v m) : ∃ a c, v = .slice a m.length c := by
  obtain ⟨xs, ok, h1, _⟩ := h.row
  exact own_form' h1
/-- one more -/
theorem OwnKs.push {W W3 W4 : World} {base g cap mid : Nat} {v : Value} {m : List Tree} {k : Tree} {z : Value} (hb : Below mid W W3) (hm : W.heap.size ≤ mid) (hmb : base ≤ mid)
    {xs : List Value} {ok : Nat → Prop} (h1 : W3.ownsRow base 24 3 v m.length xs) (h2 : RowOf W3 ok m xs) (h3 : ∀ b, ok b → base ≤ b ∧ b < W.heap.size ∧ some b ≠ v.ownBlock) (hv : ∀ b, v.ownBlock = some b → b < W.heap.size)
    (ho : OwnT W3 mid k z) (hown : W4.ownsRow base 24 3 (.slice (some ⟨g, 0, none⟩) (m.length + 1) cap) (m.length + 1) (xs ++ [.string k.name, .string k.text, z])) (hg : W3.grownBy W4 v.ownBlock) (hat : v.ownBlock = some g ∨ g = W3.heap.size) :
    OwnKs W4 base (.slice (some ⟨g, 0, none⟩) (m.length + 1) cap) (m ++ [k]) := by
  obtain ⟨ok2, h4, h5⟩ := ho
  have hs := hb.size
  have keep : ∀ b, b < W3.heap.size → some b ≠ v.ownBlock → W4.heap[b]? = W3.heap[b]? := fun b h1 h2 => hg.block b h1 h2
  refine ⟨xs ++ [.string k.name, .string k.text, z], fun b => ok b ∨ ok2 b, ?_, ?_, fun b hb' => ?_⟩
  · rw [List.length_append]; exact hown
  · refine RowOf.append (RowOf.kept (fun b hlt hok => keep b hlt (h3 b hok).2.2) (fun _ _ h => .inl h) h2) (RowOf.one ?_)
    exact TreeOn.kept (fun b hlt hok => keep b hlt (fun e => by have := hv b e.symm; have := (h5 b hok).1; omega)) (fun _ _ h => .inr h) _ _ _ _ h4
  · have hg3 := hg.size
    rcases hb' with hb' | hb'
    · have q := h3 b hb'
      refine ⟨q.1, by omega, fun e => ?_⟩
      simp only [Value.ownBlock, Option.some.injEq] at e
      subst e
      rcases hat with h | h
      · exact q.2.2 h.symm
      · omega
    · have q := h5 b hb'
      refine ⟨by omega, by omega, fun e => ?_⟩
      simp only [Value.ownBlock, Option.some.injEq] at e
      subst e
      rcases hat with h | h
      · have := hv b h; omega
      · omega
def FindOut (ks : List Tree) (nm : Bs) (w : World) (e : Ending) (w' : World) : Prop := ∃ v, e = .returned v ∧ OwnKs w' w.heap.size v (ks.filter (namedX nm)) ∧ Below w.heap.size w w'

set_option maxHeartbeats 4000000 in
set_option maxRecDepth 100000 in
theorem Find_any (t : Tree) (nm : Bs) (a : Option Addr) (c : Nat) (w : World) (h : ElemIn w t a c) :
    Calls Tryz.prog 16 #[.agg (elC t a c), .string ⟨nm.toArray⟩] w (FindOut t.kids nm w) := by
  obtain ⟨i0, hi0, hz0, hz1, hz2⟩ := info_elem
  obtain ⟨-, -, -, -, hkl, a0, c0, he, hK⟩ := h.cells
  injection he with e1 _ e3
  subst e1 e3
  unfold elC
  obtain ⟨W0, hw0⟩ : ∃ W0, w.alloc (.cells #[.string t.name, .string t.text, .slice a t.kids.length c] 24) = W0 := ⟨_, rfl⟩
  have B0 : Below w.heap.size w W0 := by rw [← hw0]; exact below_alloc (Below.refl _ _) (Nat.le_refl _) _
  have X0 : W0.heap[w.heap.size]? = some (.cells #[.string t.name, .string t.text, .slice a t.kids.length c] 24 (0, 0)) := by rw [← hw0]; exact heap_alloc_new _ _
  have k2 : W0.cell? ⟨w.heap.size, 2, none⟩ = some (.slice a t.kids.length c) := cell_at X0 rfl
  have HK := Lib.hid (KidsIn.later B0 _ _ _ hK)
  have HB0 := Lib.hid B0
  generalize t.name = tn at *
  generalize t.text = tt at *
  generalize t.kids = ks at *
  clear h hK X0 B0
  go_enter Tryz.func16, Tryz.ntmps16
  go_wp2_with fail
  clear hw0 k2
  go_loopg [5, 11] ks.length (fun gg s5 s11 wr => ∃ (i : Nat) (v : Value), i ≤ ks.length ∧ ks.length - i ≤ gg ∧ s5 = v ∧ s11 = .int .i64 i ∧ Hid (Below W0.heap.size W0 wr) ∧ Hid (OwnKs wr W0.heap.size v ((ks.take i).filter (namedX nm))))
  case atStart => exact ⟨0, _, Nat.zero_le _, by omega, rfl, rfl, Below.refl _ _, OwnKs.nil _ _⟩
  case round =>
    obtain ⟨i, v, hi, hg, rfl, rfl, HB, HO⟩ := hrel
    by_cases hlt : i < ks.length
    · have hiz : (i : Int) < (ks.length : Int) := by omega
      obtain ⟨k, hik⟩ : ∃ k, ks[i]? = some k := ⟨_, List.getElem?_eq_getElem hlt⟩
      obtain ⟨b, o, a2, c2, rfl, hr, hek⟩ := kid_range (KidsIn.later HB.out _ _ _ HK.out) hik
      have HR := Lib.hid hr
      have HEK := Lib.hid hek
      have HFT := Lib.hid (filter_take (p := namedX nm) hik)
      clear hr hik hek
      go_upto_region 5 with (first
        | (refine wpList_load_mid (by rfl) 24 _ (by rfl) b (o + i * 3) (by rfl) [.string k.name, .string k.text, .slice a2 k.kids.length c2] _ HR.out Tryz.underlying24 rfl (by kernel_rfl) ?_)
        | (refine wpList_store_rowN (by rfl) 24 _ _ (by rfl) wr.heap.size (elC k a2 c2) (by rfl) (by rfl) 24 elemZC (by exact heap_alloc_new _ _) (by kernel_rfl) (by rfl) (by kernel_rfl) (fun W => W.heap[wr.heap.size]? = some (.cells (elC k a2 c2) 24 (0, 0)) ∧ Below wr.heap.size wr W) (by rw [setRow_alloc _ _ _ _ _ rfl]; exact ⟨heap_alloc_new _ _, below_alloc (Below.refl _ _) (Nat.le_refl _) _⟩) ?_; rintro W1 h1))
      have m0 : W1.cell? ⟨wr.heap.size, 0, none⟩ = some (.string ⟨k.name.data.toList.toArray⟩) := by rw [← name_list]; exact cell_at h1.1 rfl
      have HB1 := Lib.hid (HB.out.trans (h1.2.mono HB.out.size))
      have HX1 := Lib.hid h1.1
      have HO1 := Lib.hid (HO.out.later h1.2)
      have HE1 := Lib.hid (HEK.out.later h1.2)
      have HN : Hid (namedX nm k = (k.name.data.toList == nm)) := rfl
      have hml : ((ks.take i).filter (namedX nm)).length ≤ i := by have := List.length_filter_le (namedX nm) (ks.take i); rw [List.length_take] at this; omega
      generalize wr.heap.size = g8 at *
      generalize hkn : k.name.data.toList = kn at *
      generalize (ks.take i).filter (namedX nm) = m at *
      clear h1 HR HO HEK
      by_cases hn : kn = nm
      · have HP : Hid ((ks.take (i + 1)).filter (namedX nm) = m ++ [k]) := by show _ = _; rw [HFT.out, HN.out, hn]; simp
        subst hn
        clear HFT HN
        go_wp2_with (refine wpList_load_row (by rfl) 24 _ (by rfl) g8 (by rfl) 24 (elC k a2 c2) (0, 0) _ (by exact HX1.out) Tryz.underlying24 rfl (by kernel_rfl) ?_)
        refine (twin_any k a2 c2 W1 HE1.out).mono ?_
        rintro e W2 ⟨z, rfl, hz, hb2⟩
        obtain ⟨az, cz, rfl, -⟩ := hz.form
        obtain ⟨av, cv, rfl⟩ := HO1.out.form
        obtain ⟨xs, ok, ho1, ho2, ho3⟩ := HO1.out.row
        have HZ := Lib.hid hz
        have HB2 := Lib.hid hb2
        have HO2 := Lib.hid (And.intro ho1 (And.intro ho2 ho3))
        have HBW := Lib.hid (HB1.out.trans (hb2.mono HB1.out.size))
        have hw1 : W0.heap.size ≤ W1.heap.size := HB1.out.size
        clear hz hb2 ho1 ho2 ho3 HE1 HX1 m0
        go_wp2_with (at_builtin; refine wpList_append_lies _ (by rfl) _ _ 22 (by rfl) W0.heap.size 24 i0 _ 3 56 Tryz.underlying22 hi0 hz0 hz1 hz2 rfl (by decide) _ m.length xs (by rfl) (own_later' HO2.out.1 (below_alloc HB2.out (Nat.le_refl _) _)) ⟨W2.heap.size, 0, none⟩ 1 1 [.string k.name, .string k.text, .slice az k.kids.length cz] (by rfl) (by rfl) ?c1 ?c2 (by decide) ?c3 ?c4 ?c5 _ rfl ?_)
        case c1 => exact fun j u hj => cells_new _ _ _ _ _ hj
        case c2 => simp [Value.oneCell']
        case c3 => simp only [maxLen]; omega
        case c4 => omega
        case c5 => have := HB2.out.size; simp; omega
        intro g cap W4 hown hgr hat hlt4
        have HOK : Hid (OwnKs W4 W0.heap.size (.slice (some ⟨g, 0, none⟩) (m.length + 1) cap) (m ++ [k])) := by
          have hb3 : Below W1.heap.size W1 (W2.alloc (.cells #[.string k.name, .string k.text, .slice az k.kids.length cz] 24)) := below_alloc HB2.out (Nat.le_refl _) _
          have hb23 : Below W2.heap.size W2 (W2.alloc (.cells #[.string k.name, .string k.text, .slice az k.kids.length cz] 24)) := below_alloc (Below.refl _ _) (Nat.le_refl _) _
          exact OwnKs.push hb3 (Nat.le_refl _) hw1 (own_later' HO2.out.1 hb3) (RowOf.kept (fun b hlt _ => hb3.block b hlt) (fun _ _ h => h) HO2.out.2.1) HO2.out.2.2 (fun b hb => (HO2.out.1.lt b hb).2) (HZ.out.later hb23) hown hgr (hat.imp id (fun e => by rw [e]; simp))
        have HB4 : Hid (Below W0.heap.size W0 W4) := by
          have h3 : Below W0.heap.size W0 (W2.alloc (.cells #[.string k.name, .string k.text, .slice az k.kids.length cz] 24)) := below_alloc HBW.out (Nat.le_refl _) _
          exact ⟨hgr.os.trans h3.os, hgr.tape.trans h3.tape, hgr.output.trans h3.output, Nat.le_trans h3.size hgr.size, fun b hb => (hgr.block b (Nat.lt_of_lt_of_le hb h3.size) (fun e => by have := (HO2.out.1.lt b e.symm).1; omega)).trans (h3.block b hb)⟩
        clear hown hgr hat
        go_wp2_with fail
        go_roundg (ks.length - (i + 1))
        case measure => omega
        case rel => exact ⟨i + 1, _, by omega, Nat.le_refl _, rfl, by go_num, HB4.out, by rw [HP.out]; exact HOK.out⟩
      · have hnb : (kn == nm) = false := beq_eq_false_iff_ne.2 hn
        have HP : Hid ((ks.take (i + 1)).filter (namedX nm) = m) := by show _ = _; rw [HFT.out, HN.out, hnb]; simp
        clear HFT HN
        go_wp2_with fail
        go_roundg (ks.length - (i + 1))
        case measure => omega
        case rel => exact ⟨i + 1, _, by omega, Nat.le_refl _, rfl, by go_num, HB1.out, by rw [HP.out]; exact HO1.out⟩
    · obtain rfl : i = ks.length := by omega
      have HF := HO
      rw [List.take_length] at HF
      have HE : Hid (Below w.heap.size w wr) := HB0.out.trans (HB.out.mono HB0.out.size)
      go_wp2_with fail
      go_ret
      exact ⟨_, rfl, HF.out.base HB0.out.size, HE.out⟩
end Go.Proofs.YtgmgghbocidibaaGreatDoor
