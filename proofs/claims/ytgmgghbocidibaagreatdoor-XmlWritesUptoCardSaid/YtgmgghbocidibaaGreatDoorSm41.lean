/-
  SEVERAL SMALL TEXTS IN ONE.
-/
import Derived.Test.YtgmgghbocidibaaGreatDoorXmFind
import Derived.Test.YtgmgghbocidibaaGreatDoorSm35
import Derived.Test.YtgmgghbocidibaaGreatDoorSm40
/-
  storehouseref15.Find, Text: the kids of a name, as they lie.
-/
namespace Go.Proofs.YtgmgghbocidibaaGreatDoor
open Go.RowKit Go.Lib

theorem KidRow.nil (w : World) : KidRow w [] [] := ⟨rfl, fun j k h => by simp at h, fun u h => by cases h⟩
theorem KidRow.snoc {w : World} {m : List Tree} {xs : List Value} (h : KidRow w m xs) {k : Tree} {a : Option Addr} {c : Nat} (he : ElemIn w k a c) : KidRow w (m ++ [k]) (xs ++ [.string k.name, .string k.text, .slice a k.kids.length c]) := by
  have hl := h.len
  refine ⟨by simp only [List.length_append, List.length_cons, List.length_nil]; omega, fun j k' hj => ?_, fun u hu => ?_⟩
  · rcases Nat.lt_or_ge j m.length with hlt | hge
    · rw [List.getElem?_append_left hlt] at hj
      obtain ⟨a', c', q1, q2, q3, q4⟩ := h.at_ j k' hj
      exact ⟨a', c', by rw [List.getElem?_append_left (by omega)]; exact q1, by rw [List.getElem?_append_left (by omega)]; exact q2, by rw [List.getElem?_append_left (by omega)]; exact q3, q4⟩
    · rw [List.getElem?_append_right hge] at hj
      have hj0 : j - m.length = 0 := by
        have := (List.getElem?_eq_some_iff.1 hj).1
        simp at this
        omega
      rw [hj0] at hj
      simp only [List.getElem?_cons_zero, Option.some.injEq] at hj
      subst hj
      obtain rfl : j = m.length := by omega
      refine ⟨a, c, ?_, ?_, ?_, he⟩
      · rw [List.getElem?_append_right (by omega), show m.length * 3 - xs.length = 0 by omega]; rfl
      · rw [List.getElem?_append_right (by omega), show m.length * 3 + 1 - xs.length = 1 by omega]; rfl
      · rw [List.getElem?_append_right (by omega), show m.length * 3 + 2 - xs.length = 2 by omega]; rfl
  · rcases List.mem_append.1 hu with hu | hu
    · exact h.one u hu
    · simp only [List.mem_cons, List.not_mem_nil, or_false] at hu
      rcases hu with rfl | rfl | rfl <;> rfl
/-- what the loop keeps -/
structure RfAt (w0 w W : World) (v : Value) (m : List Tree) (es : Array Value) : Prop where
  box : WBox w W es
  row : ∃ xs, W.ownsRow (w.heap.size + 1) 24 3 v m.length xs ∧ KidRow w0 m xs
theorem RfAt.later {w0 w W W' : World} {v : Value} {m : List Tree} {es : Array Value} (h : RfAt w0 w W v m es) (hb : Below W.heap.size W W') : RfAt w0 w W' v m es := by
  obtain ⟨xs, h1, h2⟩ := h.row
  exact ⟨h.box.later hb, xs, own_later' h1 hb, h2⟩
def RFindOut (ks : List Tree) (nm : Bs) (w0 w : World) (e : Ending) (w' : World) : Prop := ∃ v news, e = .returned v ∧ w'.ownsRow w.heap.size 24 3 v (ks.filter (namedX nm)).length news ∧ KidRow w0 (ks.filter (namedX nm)) news ∧ Below w.heap.size w w'

set_option maxHeartbeats 4000000 in
set_option maxRecDepth 100000 in
theorem rFind_any (t : Tree) (nm : Bs) (a : Option Addr) (c : Nat) (w0 w : World) (h : ElemIn w0 t a c) (hbw : Below w0.heap.size w0 w) :
    Calls Tryz.prog 17 #[.agg (elC t a c), .string ⟨nm.toArray⟩] w (RFindOut t.kids nm w0 w) := by
  obtain ⟨i0, hi0, hz0, hz1, hz2⟩ := info_elem
  obtain ⟨-, -, -, -, hkl, a0, c0, he, hK⟩ := h.cells
  injection he with e1 _ e3
  subst e1 e3
  unfold elC
  obtain ⟨W0, hw0⟩ : ∃ W0, w.alloc (.cells #[.string t.name, .string t.text, .slice a t.kids.length c] 24) = W0 := ⟨_, rfl⟩
  have X0 : Hid (RfAt w0 w W0 (.slice none 0 0) [] #[.string t.name, .string t.text, .slice a t.kids.length c]) := ⟨⟨by rw [← hw0]; exact below_alloc (Below.refl _ _) (Nat.le_refl _) _, by rw [← hw0]; exact heap_alloc_new _ _⟩, [], World.ownsRow_nil _ _ _ _, KidRow.nil _⟩
  have HK := Lib.hid hK
  have HBW := Lib.hid hbw
  generalize t.name = tn at *
  generalize t.text = tt at *
  generalize t.kids = ks at *
  clear h hK hbw
  go_enter Tryz.func17, Tryz.ntmps17
  go_upto_region 2 with (fail)
  clear hw0
  go_wp2_with fail
  go_loopg [5, 6] ks.length (fun gg s5 s6 wr => ∃ (i : Nat) (v : Value), i ≤ ks.length ∧ ks.length - i ≤ gg ∧ s5 = v ∧ s6 = .int .i64 i ∧ Hid (RfAt w0 w wr v ((ks.take i).filter (namedX nm)) #[.string tn, .string tt, .slice a ks.length c]))
  case atStart => exact ⟨0, _, Nat.zero_le _, by omega, rfl, rfl, X0.out⟩
  case round =>
    obtain ⟨i, v, hi, hg, hv, rfl, HR⟩ := hrel
    have hv := hv.symm
    subst hv
    by_cases hlt : i < ks.length
    · have hiz : (i : Int) < (ks.length : Int) := by omega
      obtain ⟨k, hik⟩ : ∃ k, ks[i]? = some k := ⟨_, List.getElem?_eq_getElem hlt⟩
      obtain ⟨b, o, a2, c2, rfl, hr, -⟩ := kid_range (KidsIn.later (HBW.out.trans (HR.out.box.below.mono HBW.out.size)) _ _ _ HK.out) hik
      obtain ⟨b', o', a2', c2', e', hr', hek⟩ := kid_range HK.out hik
      injection e' with e'
      injection e' with eb eo _
      subst eb eo
      have ea : a2 = a2' ∧ c2 = c2' := by
        have h1 := cell_later (HBW.out.trans (HR.out.box.below.mono HBW.out.size)) (hr' 2 _ rfl)
        rw [hr 2 _ rfl] at h1
        injection h1 with h1
        injection h1 with h1 _ h3
        exact ⟨h1, h3⟩
      obtain ⟨rfl, rfl⟩ := ea
      have HKC := Lib.hid hr
      have HEK := Lib.hid hek
      have HFT := Lib.hid (filter_take (p := namedX nm) hik)
      have HN : Hid (namedX nm k = (k.name.data.toList == nm)) := rfl
      have k2 : wr.cell? ⟨w.heap.size, 2, none⟩ = some (.slice (some ⟨b, o, none⟩) ks.length c) := cell_at HR.out.box.box rfl
      have r0 : wr.cell? ⟨b, o + i * 3, none⟩ = some (.string ⟨k.name.data.toList.toArray⟩) := by rw [← name_list]; exact hr 0 _ rfl
      have hml : ((ks.take i).filter (namedX nm)).length ≤ i := by have := List.length_filter_le (namedX nm) (ks.take i); rw [List.length_take] at this; omega
      generalize hkn : k.name.data.toList = kn at *
      generalize hm0 : (ks.take i).filter (namedX nm) = m at *
      clear hr hr' hek hik
      by_cases hn : kn = nm
      · have HP : Hid ((ks.take (i + 1)).filter (namedX nm) = m ++ [k]) := by show _ = _; rw [HFT.out, HN.out, hn]; simp
        subst hn
        clear HFT HN
        obtain ⟨xs, ho1, ho2⟩ := HR.out.row
        obtain ⟨av, cv, rfl⟩ := own_form' ho1
        have HO := Lib.hid (And.intro ho1 ho2)
        have hw1 : w.heap.size + 1 ≤ wr.heap.size := (Array.getElem?_eq_some_iff.1 HR.out.box.box).1
        clear ho1 ho2
        go_wp2_with (first
          | (refine wpList_load_mid (by rfl) 24 _ (by rfl) b (o + i * 3) (by rfl) [.string k.name, .string k.text, .slice a2 k.kids.length c2] _ HKC.out Tryz.underlying24 rfl (by kernel_rfl) ?_)
          | (at_builtin; refine wpList_append_lies _ (by rfl) _ _ 22 (by rfl) (w.heap.size + 1) 24 i0 _ 3 56 Tryz.underlying22 hi0 hz0 hz1 hz2 rfl (by decide) _ m.length xs (by rfl) (own_later' HO.out.1 (below_alloc (Below.refl _ _) (Nat.le_refl _) _)) ⟨wr.heap.size, 0, none⟩ 1 1 [.string k.name, .string k.text, .slice a2 k.kids.length c2] (by rfl) (by rfl) ?c1 ?c2 (by decide) ?c3 ?c4 ?c5 _ rfl ?_))
        try (case c1 => exact fun j u hj => cells_new _ _ _ _ _ hj)
        try (case c2 => simp [Value.oneCell'])
        case c3 => simp only [maxLen]; omega
        case c4 => omega
        case c5 => first | omega | (simp; omega)
        intro g cap W4 hown hgr hat hlt4
        have HP4 : Hid (RfAt w0 w W4 (.slice (some ⟨g, 0, none⟩) (m.length + 1) cap) (m ++ [k]) #[.string tn, .string tt, .slice (some ⟨b, o, none⟩) ks.length c]) := by
          have hb3 : Below wr.heap.size wr (wr.alloc (.cells #[.string k.name, .string k.text, .slice a2 k.kids.length c2] 24)) := below_alloc (Below.refl _ _) (Nat.le_refl _) _
          have hbase : ∀ q, (Value.slice av m.length cv).ownBlock = some q → w.heap.size + 1 ≤ q := fun q hq => (HO.out.1.lt q hq).1
          have hC := (HR.out.later hb3).box
          have hsz := hb3.size
          have hkeep : ∀ q, q < w.heap.size + 1 → W4.heap[q]? = (wr.alloc (.cells #[.string k.name, .string k.text, .slice a2 k.kids.length c2] 24)).heap[q]? := fun q hq => hgr.block q (by omega) (fun e => by have := hbase q e.symm; omega)
          exact ⟨⟨⟨hgr.os.trans hC.below.os, hgr.tape.trans hC.below.tape, hgr.output.trans hC.below.output, Nat.le_trans hC.below.size hgr.size, fun q hq => (hkeep q (by omega)).trans (hC.below.block q hq)⟩, (hkeep _ (by omega)).trans hC.box⟩, _, by rw [List.length_append]; exact hown, HO.out.2.snoc HEK.out⟩
        clear hown hgr hat k2 r0
        go_wp2_with fail
        go_roundg (ks.length - (i + 1))
        case measure => omega
        case rel => exact ⟨i + 1, _, by omega, Nat.le_refl _, rfl, by go_num, by rw [HP.out]; exact HP4.out⟩
      · have hnb : (kn == nm) = false := beq_eq_false_iff_ne.2 hn
        have HP : Hid ((ks.take (i + 1)).filter (namedX nm) = m) := by show _ = _; rw [HFT.out, HN.out, hnb]; simp
        clear HFT HN
        go_wp2_with fail
        go_roundg (ks.length - (i + 1))
        case measure => omega
        case rel => exact ⟨i + 1, _, by omega, Nat.le_refl _, rfl, by go_num, by rw [HP.out]; exact HR.out⟩
    · obtain rfl : i = ks.length := by omega
      rw [List.take_length] at HR
      have k2 : wr.cell? ⟨w.heap.size, 2, none⟩ = some (.slice a ks.length c) := cell_at HR.out.box.box rfl
      go_wp2_with fail
      go_ret
      obtain ⟨xs, h1, h2⟩ := HR.out.row
      exact ⟨_, xs, rfl, ⟨h1.1, h1.2.imp id fun ⟨g, cap, cur, a, b, c⟩ => ⟨g, cap, cur, a, by omega, c⟩⟩, h2, HR.out.box.below⟩

set_option maxHeartbeats 4000000 in
set_option maxRecDepth 100000 in
theorem rText_any (t : Tree) (nm : Bs) (a : Option Addr) (c : Nat) (w : World) (h : ElemIn w t a c) :
    Calls Tryz.prog 19 #[.agg (elC t a c), .string ⟨nm.toArray⟩] w fun e w' => e = .returned (.tuple #[.string ⟨(textX t.kids nm).1.toArray⟩, .bool (textX t.kids nm).2]) ∧ Below w.heap.size w w' := by
  have HT := Lib.hid h
  clear h
  obtain ⟨W0, hw0⟩ : ∃ W0, w.alloc (.cells #[.string t.name, .string t.text, .slice a t.kids.length c] 24) = W0 := ⟨_, rfl⟩
  have X0 : Hid (WBox w W0 (elC t a c)) := ⟨by rw [← hw0]; exact below_alloc (Below.refl _ _) (Nat.le_refl _) _, by rw [← hw0]; exact heap_alloc_new _ _⟩
  have HF := Lib.hid (rFind_any t nm a c W0 W0 (HT.out.later X0.out.below) (Below.refl _ _))
  rw [show Value.agg (elC t a c) = .agg #[.string t.name, .string t.text, .slice a t.kids.length c] from rfl]
  go_enter Tryz.func19, Tryz.ntmps19
  go_wp2_with (refine wpList_load_row (by rfl) 24 _ (by rfl) w.heap.size (by rfl) 24 (elC t a c) (0, 0) _ (by exact X0.out.box) Tryz.underlying24 rfl (by kernel_rfl) ?_)
  refine HF.out.mono ?_
  rintro e W1 ⟨v, news, rfl, hown, hkr, hb⟩
  have B1 := Lib.hid (X0.out.below.trans (hb.mono X0.out.below.size))
  clear hb hw0 X0 HF
  have HTX : Hid (textX t.kids nm = match t.kids.filter (namedX nm) with
    | [k] => if k.kids = [] then (k.text.data.toList, true) else ([], false)
    | _ => ([], false)) := rfl
  generalize t.kids.filter (namedX nm) = m at *
  by_cases h1 : m.length = 1
  · obtain ⟨k, rfl⟩ : ∃ k, m = [k] := by
      match m, h1 with
      | [k], _ => exact ⟨k, rfl⟩
    obtain ⟨a2, c2, q1, q2, q3, -⟩ := hkr.at_ 0 k rfl
    rcases hown.2 with ⟨_, h0⟩ | ⟨g, cap, cur, rfl, hg1, hg2, _, _, _, hc⟩
    · simp at h0
    have hcc : ∀ j u, news[j]? = some u → W1.cell? ⟨g, j, none⟩ = some u := fun j u hj => by
      rw [← hc, List.getElem?_take] at hj
      split at hj
      · rw [Array.getElem?_toList] at hj; exact cell_at hg2 hj
      · cases hj
    have d1 : W1.cell? ⟨g, 1, none⟩ = some (.string ⟨k.text.data.toList.toArray⟩) := by
      rw [show Value.string ⟨k.text.data.toList.toArray⟩ = .string k.text from by cases k.text; rfl]; exact hcc 1 _ q2
    have d2 : W1.cell? ⟨g, 2, none⟩ = some (.slice a2 k.kids.length c2) := hcc 2 _ q3
    clear hown hkr hcc q1 q2 q3 hg2 hc h1
    by_cases hkk : k.kids = []
    · have hk0 : k.kids.length = 0 := by rw [hkk]; rfl
      have hkz : ¬ (0 : Int) < (k.kids.length : Int) := by omega
      rw [hk0] at d2
      have HZ : Hid (textX t.kids nm = (k.text.data.toList, true)) := by show _ = _; rw [HTX.out]; simp only [hkk, if_true]
      clear HTX
      go_wp2_with fail
      go_ret2
      exact ⟨by rw [HZ.out]; rfl, B1.out⟩
    · have hkz : (0 : Int) < (k.kids.length : Int) := by have := List.length_pos_iff.2 hkk; omega
      have HZ : Hid (textX t.kids nm = ([], false)) := by show _ = _; rw [HTX.out]; simp only [hkk, if_false]
      clear HTX
      go_wp2_with fail
      go_ret2
      exact ⟨by rw [HZ.out]; rfl, B1.out⟩
  · have hmz : ¬ (m.length : Int) = 1 := by omega
    have hmb : ((m.length : Int) == 1) = false := beq_eq_false_iff_ne.2 hmz
    obtain ⟨av, cv, rfl⟩ := own_form' hown
    have HE : Hid (textX t.kids nm = ([], false)) := by
      show _ = _
      rw [HTX.out]
      match m, h1 with
      | [], _ => rfl
      | [k], h => simp at h
      | _ :: _ :: _, _ => rfl
    clear hown hkr HTX
    go_wp2_with fail
    go_ret2
    exact ⟨by rw [HE.out]; rfl, B1.out⟩
end Go.Proofs.YtgmgghbocidibaaGreatDoor

/-
  law XmlBack: what is written is read as it was; what is read can be written, and is read again the same.
-/
namespace Go.Proofs.YtgmgghbocidibaaGreatDoor
open Go.RowKit Go.Lib Go.PlainAid

theorem wOut_no {t : Tree} (h : okT t = false) : wOut t = ([], 55) := by unfold wOut; rw [if_pos h]
theorem wOut_long {t : Tree} (h : okT t = true) (hl : 1000000 < (headC ++ writeL t).length) : wOut t = ([], 56) := by unfold wOut; rw [if_neg (by rw [h]; decide), if_pos hl]
theorem wOut_yes {t : Tree} (h : okT t = true) (hl : (headC ++ writeL t).length ≤ 1000000) : wOut t = (headC ++ writeL t, 0) := by unfold wOut; rw [if_neg (by rw [h]; decide), if_neg (by omega)]
theorem back_ok {t : Tree} (h : okT t = true) (hl : (headC ++ writeL t).length ≤ 8000) : parseL (headC ++ writeL t) = .ok t := parse_write ((okT_iff t).1 h).1 hl
/-- Parse at a text of which it is known what it gives -/
theorem parse_at {w : World} (hG : GlobX w) {l : Bs} {x : Except (Int × Int) Tree} (h : parseL l = x) (hl : l.length ≤ 140737488355328) : Calls Tryz.prog 9 #[.string ⟨l.toArray⟩] w (ParseOut x w) := by
  have h1 := Parse_any ⟨l.toArray⟩ w hG (by simpa [ByteArray.size] using hl)
  rw [show (⟨l.toArray⟩ : ByteArray).data.toList = l from rfl, h] at h1
  exact h1

set_option maxHeartbeats 8000000 in
set_option maxRecDepth 100000 in
theorem back_law {w : World} (hG : GlobX w) (t : Tree) (a : Option Addr) (c : Nat) (hT : ElemIn w t a c) (hS : okT t = true → SmT t) (s : Bs) (hs : s.length ≤ 140737488355328) :
    Calls Tryz.prog 3 #[.agg (elC t a c), .string ⟨s.toArray⟩] w fun e w' => e = .returned (.bool true) ∧ Below w.heap.size w w' := by
  have HG := Lib.hid hG
  have HT := Lib.hid hT
  have HS := Lib.hid hS
  have HLS := Lib.hid hs
  clear hG hT hS hs
  obtain ⟨W0, hw0⟩ : ∃ W0, w.alloc (.cells #[.string t.name, .string t.text, .slice a t.kids.length c] 24) = W0 := ⟨_, rfl⟩
  have X0 : Hid (WBox w W0 (elC t a c)) := ⟨by rw [← hw0]; exact below_alloc (Below.refl _ _) (Nat.le_refl _) _, by rw [← hw0]; exact heap_alloc_new _ _⟩
  have HEX := Lib.hid (ex_walk (HG.out.later X0.out.below))
  rw [show Value.agg (elC t a c) = .agg #[.string t.name, .string t.text, .slice a t.kids.length c] from rfl]
  go_enter Tryz.func3, Tryz.ntmps3
  go_wp2_with fail
  refine HEX.out.mono ?_
  rintro e W1 ⟨rfl, hb1⟩
  have X1 := Lib.hid (X0.out.later hb1)
  clear hb1 X0 HEX hw0
  have HW := Lib.hid (write_prog t a c W1 (HT.out.later X1.out.below) (HG.out.later X1.out.below).c HS.out)
  go_upto_region 3 with (refine wpList_load_row (by rfl) 24 _ (by rfl) w.heap.size (by rfl) 24 (elC t a c) (0, 0) _ (by exact X1.out.box) Tryz.underlying24 rfl (by kernel_rfl) ?_)
  refine HW.out.mono ?_
  rintro e W2 ⟨rfl, hb2⟩
  have X2 := Lib.hid (X1.out.later hb2)
  clear hb2 X1 HW
  obtain ⟨l, n, hl⟩ : ∃ l n, wOut t = (l, n) := ⟨_, _, rfl⟩
  rw [hl]
  have HWO := Lib.hid hl
  clear hl
  go_upto_region 3 with (fail)
  go_cut [30] (fun s30 wr => s30 = .bool (decide (n = 0) && decide (l.length ≤ 8000)) ∧ wr = W2)
  case first =>
    by_cases hn : n = 0
    · subst hn
      by_cases h8 : l.length ≤ 8000
      · have h8z : (l.length : Int) ≤ 8000 := by omega
        go_wp2_with fail
        go_meet
        case rel => exact ⟨by simp [h8], rfl⟩
      · have h8z : ¬ (l.length : Int) ≤ 8000 := by omega
        go_wp2_with fail
        go_meet
        case rel => exact ⟨by simp [h8], rfl⟩
    · have hnb : (n == 0) = false := beq_eq_false_iff_ne.2 hn
      go_wp2_with fail
      go_meet
      case rel => exact ⟨by simp [hn], rfl⟩
  obtain ⟨rfl, hww⟩ := hcut
  have hww := hww.symm
  subst hww
  go_upto_if 30 with (fail)
  go_cut [] (fun wr => Hid (Below w.heap.size w wr))
  case first =>
    by_cases hn : n = 0
    · subst hn
      have hok : okT t = true := by
        cases h : okT t with
        | true => rfl
        | false => have h1 := HWO.out; rw [wOut_no h] at h1; injection h1 with _ h1; cases h1
      have hle : (headC ++ writeL t).length ≤ 1000000 := by
        rcases Nat.lt_or_ge 1000000 (headC ++ writeL t).length with h | h
        · have h1 := HWO.out; rw [wOut_long hok h] at h1; injection h1 with _ h1; cases h1
        · exact h
      have hll : headC ++ writeL t = l := by
        have h1 := HWO.out; rw [wOut_yes hok hle] at h1; injection h1
      by_cases h8 : l.length ≤ 8000
      · have HP := Lib.hid (parse_at (HG.out.later X2.out.below) (by rw [← hll] at h8 ⊢; exact back_ok hok h8) (l := l) (x := .ok t) (by omega))
        have HOK := Lib.hid hok
        clear hle hll hok HWO
        rw [show (decide ((0:Int) = 0) && decide (l.length ≤ 8000)) = true from by simp [h8]]
        go_wp2_with fail
        refine HP.out.mono ?_
        rintro e W3 ⟨hb3, z, rfl, ho⟩
        obtain ⟨a3, c3, rfl, hT3⟩ := ho.form
        have X3 := Lib.hid (X2.out.later hb3)
        have T3 := Lib.hid hT3
        clear hb3 hT3 ho HP X2
        go_upto_region 5 with (refine wpList_store_rowN (by rfl) 24 _ _ (by rfl) W3.heap.size (elC t a3 c3) (by rfl) (by rfl) 24 elemZC (by exact heap_alloc_new _ _) (by kernel_rfl) (by rfl) (by kernel_rfl) (fun W => W.heap[W3.heap.size]? = some (.cells (elC t a3 c3) 24 (0, 0)) ∧ Below W3.heap.size W3 W) (elem_box rfl rfl) ?_; rintro W4 h4)
        have X4 := Lib.hid (X3.out.later h4.2)
        have Y4 := Lib.hid h4.1
        have T4 := Lib.hid (T3.out.later h4.2)
        have HSA := Lib.hid (Same_prog t t a a3 c c3 W4 (HT.out.later X4.out.below) T4.out (HG.out.later X4.out.below).c)
        rw [HOK.out, same_refl] at HSA
        clear h4 X3 T3
        generalize W3.heap.size = g3 at *
        go_wp2_with (first
          | (refine wpList_wanted (by go_simp) ?_; refine wp_load_row 24 _ (by rfl) w.heap.size (by rfl) 24 (elC t a c) (0, 0) _ (by exact X4.out.box) Tryz.underlying24 rfl (by kernel_rfl) ?_)
          | (refine wpList_wanted (by go_simp) ?_; refine wp_load_row 24 _ (by rfl) g3 (by rfl) 24 (elC t a3 c3) (0, 0) _ (by exact Y4.out) Tryz.underlying24 rfl (by kernel_rfl) ?_))
        refine HSA.out.mono ?_
        rintro e W5 ⟨rfl, hb5⟩
        have B5 := Lib.hid (X4.out.below.trans (hb5.mono X4.out.below.size))
        clear hb5
        go_wp2_with fail
        go_meet
        case rel => exact B5.out
      · have B5 := Lib.hid X2.out.below
        rw [show (decide ((0:Int) = 0) && decide (l.length ≤ 8000)) = false from by simp [h8]]
        go_wp2_with fail
        go_meet
        case rel => exact B5.out
    · have B5 := Lib.hid X2.out.below
      rw [show (decide (n = 0) && decide (l.length ≤ 8000)) = false from by simp [hn]]
      go_wp2_with fail
      go_meet
      case rel => exact B5.out
  case rest =>
    have B2 := hcut
    clear hcut X2 HWO HT HS
    obtain ⟨x, hx⟩ : ∃ x, parseL s = x := ⟨_, rfl⟩
    have HP := Lib.hid (parse_at (HG.out.later B2.out) hx HLS.out)
    have HX := Lib.hid hx
    clear hx
    go_wp2_with fail
    refine HP.out.mono ?_
    cases x with
    | error cp =>
      obtain ⟨cc, pp⟩ := cp
      rintro e W3 ⟨hb3, F, rfl, hF, hFl⟩
      have B3 := Lib.hid (B2.out.trans (hb3.mono B2.out.size))
      clear hb3 hF hFl HP HX
      go_upto_region 8 with (refine wpList_store_rowN (by rfl) 24 _ _ (by rfl) W3.heap.size elemZC (by rfl) (by rfl) 24 elemZC (by exact heap_alloc_new _ _) (by kernel_rfl) (by rfl) (by kernel_rfl) (fun W => Below W3.heap.size W3 W) ((elem_box rfl rfl).2) ?_; rintro W4 h4)
      have B4 := Lib.hid (B3.out.trans (h4.mono B3.out.size))
      clear h4
      go_wp2_with fail
      go_ret
      exact ⟨rfl, B4.out⟩
    | ok t =>
      rintro e W3 ⟨hb3, z, rfl, ho⟩
      obtain ⟨a3, c3, rfl, hT3⟩ := ho.form
      have B3 := Lib.hid (B2.out.trans (hb3.mono B2.out.size))
      have T3 := Lib.hid hT3
      obtain ⟨hok, hrt, hle⟩ := parse_okT HX.out
      clear hb3 hT3 ho HP B2 hrt
      go_upto_region 8 with (refine wpList_store_rowN (by rfl) 24 _ _ (by rfl) W3.heap.size (elC t a3 c3) (by rfl) (by rfl) 24 elemZC (by exact heap_alloc_new _ _) (by kernel_rfl) (by rfl) (by kernel_rfl) (fun W => W.heap[W3.heap.size]? = some (.cells (elC t a3 c3) 24 (0, 0)) ∧ Below W3.heap.size W3 W) (elem_box rfl rfl) ?_; rintro W4 h4)
      have B4 := Lib.hid (B3.out.trans (h4.2.mono B3.out.size))
      have Y4 := Lib.hid h4.1
      have T4 := Lib.hid (T3.out.later h4.2)
      clear h4 T3 B3
      generalize W3.heap.size = g3 at *
      have HSMT : Hid (SmT t) := sm_of_short _ (by rw [List.length_append] at hle; omega)
      have HW := Lib.hid (write_prog t a3 c3 W4 T4.out (HG.out.later B4.out).c (fun _ => HSMT.out))
      have HWY := Lib.hid (wOut_yes hok hle)
      rw [HWY.out] at HW
      have HOK : Hid (okT t = true) := hok
      have HBK := Lib.hid (fun h => back_ok (t := t) hok h)
      obtain ⟨l2, hl2⟩ : ∃ l2, headC ++ writeL t = l2 := ⟨_, rfl⟩
      rw [hl2] at HW hle HBK HWY
      clear hok hl2
      go_upto_region 10 with (fail)
      go_wp2_with (refine wpList_load_row (by rfl) 24 _ (by rfl) g3 (by rfl) 24 (elC t a3 c3) (0, 0) _ (by exact Y4.out) Tryz.underlying24 rfl (by kernel_rfl) ?_)
      refine HW.out.mono ?_
      rintro e W5 ⟨rfl, hb5⟩
      have B5 := Lib.hid (B4.out.trans (hb5.mono B4.out.size))
      have Y5 := Lib.hid ((hb5.block g3 (Array.getElem?_eq_some_iff.1 Y4.out).1).trans Y4.out)
      have T5 := Lib.hid (T4.out.later hb5)
      clear hb5 T4 Y4 B4 HW
      by_cases h8 : 8000 < l2.length
      · have h8z : (8000 : Int) < (l2.length : Int) := by omega
        go_wp2_with fail
        go_ret
        exact ⟨rfl, B5.out⟩
      · have h8z : ¬ (8000 : Int) < (l2.length : Int) := by omega
        have HP := Lib.hid (parse_at (HG.out.later B5.out) (HBK.out (by omega)) (by omega))
        go_wp2_with fail
        refine HP.out.mono ?_
        rintro e W6 ⟨hb6, z, rfl, ho⟩
        obtain ⟨a6, c6, rfl, hT6⟩ := ho.form
        have B6 := Lib.hid (B5.out.trans (hb6.mono B5.out.size))
        have Y6 := Lib.hid ((hb6.block g3 (Array.getElem?_eq_some_iff.1 Y5.out).1).trans Y5.out)
        have T6 := Lib.hid (T5.out.later hb6)
        have U6 := Lib.hid hT6
        clear hb6 hT6 ho HP B5 Y5 T5
        go_upto_region 16 with (refine wpList_store_rowN (by rfl) 24 _ _ (by rfl) W6.heap.size (elC t a6 c6) (by rfl) (by rfl) 24 elemZC (by exact heap_alloc_new _ _) (by kernel_rfl) (by rfl) (by kernel_rfl) (fun W => W.heap[W6.heap.size]? = some (.cells (elC t a6 c6) 24 (0, 0)) ∧ Below W6.heap.size W6 W) (elem_box rfl rfl) ?_; rintro W7 h7)
        have B7 := Lib.hid (B6.out.trans (h7.2.mono B6.out.size))
        have Y7 := Lib.hid ((h7.2.block g3 (Array.getElem?_eq_some_iff.1 Y6.out).1).trans Y6.out)
        have Z7 := Lib.hid h7.1
        have T7 := Lib.hid (T6.out.later h7.2)
        have U7 := Lib.hid (U6.out.later h7.2)
        clear h7 T6 U6 Y6 B6
        generalize W6.heap.size = g6 at *
        have HW := Lib.hid (write_prog t a6 c6 W7 U7.out (HG.out.later B7.out).c (fun _ => HSMT.out))
        rw [HWY.out] at HW
        go_upto_region 17 with (refine wpList_load_row (by rfl) 24 _ (by rfl) g6 (by rfl) 24 (elC t a6 c6) (0, 0) _ (by exact Z7.out) Tryz.underlying24 rfl (by kernel_rfl) ?_)
        refine HW.out.mono ?_
        rintro e W8 ⟨rfl, hb8⟩
        have B8 := Lib.hid (B7.out.trans (hb8.mono B7.out.size))
        have Y8 := Lib.hid ((hb8.block g3 (Array.getElem?_eq_some_iff.1 Y7.out).1).trans Y7.out)
        have Z8 := Lib.hid ((hb8.block g6 (Array.getElem?_eq_some_iff.1 Z7.out).1).trans Z7.out)
        have T8 := Lib.hid (T7.out.later hb8)
        have U8 := Lib.hid (U7.out.later hb8)
        have HSA := Lib.hid (Same_prog t t a3 a6 c3 c6 W8 T8.out U8.out (HG.out.later B8.out).c)
        rw [HOK.out, same_refl] at HSA
        clear hb8 T7 U7 Y7 Z7 B7 HW
        go_wp2_with (first
          | (refine wpList_wanted (by go_simp) ?_; refine wp_load_row 24 _ (by rfl) g3 (by rfl) 24 (elC t a3 c3) (0, 0) _ (by exact Y8.out) Tryz.underlying24 rfl (by kernel_rfl) ?_)
          | (refine wpList_wanted (by go_simp) ?_; refine wp_load_row 24 _ (by rfl) g6 (by rfl) 24 (elC t a6 c6) (0, 0) _ (by exact Z8.out) Tryz.underlying24 rfl (by kernel_rfl) ?_))
        refine HSA.out.mono ?_
        rintro e W9 ⟨rfl, hb9⟩
        have B9 := Lib.hid (B8.out.trans (hb9.mono B8.out.size))
        clear hb9
        go_wp2_with fail
        go_ret
        exact ⟨rfl, B9.out⟩
end Go.Proofs.YtgmgghbocidibaaGreatDoor
