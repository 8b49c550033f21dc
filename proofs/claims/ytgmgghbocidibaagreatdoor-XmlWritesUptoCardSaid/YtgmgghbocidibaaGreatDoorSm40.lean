/-
  SEVERAL SMALL TEXTS IN ONE.
-/
import Derived.Test.YtgmgghbocidibaaGreatDoorSm35
import Derived.Test.YtgmgghbocidibaaGreatDoorXwFind
/-
  storehouselaw15.told: an error's code and place.
-/
namespace Go.Proofs.YtgmgghbocidibaaGreatDoor
open Go.RowKit Go.Lib Go.PlainAid

set_option maxHeartbeats 2000000 in
set_option maxRecDepth 100000 in
theorem told_nil (w : World) : Calls Tryz.prog 11 #[.nilIface] w fun e w' => e = .returned (.tuple #[.int .i64 0, .int .i64 0, .bool true]) ∧ Below w.heap.size w w' := by
  go_enter Tryz.func11, Tryz.ntmps11
  go_wp2
  go_ret3
  exact ⟨rfl, Below.refl _ _⟩
set_option maxHeartbeats 2000000 in
set_option maxRecDepth 100000 in
theorem told_fault {w : World} {F : Nat} {c p : Int} (h : w.heap[F]? = some (.cells #[.int .i64 c, .int .i64 p, .nilIface] 55 (0, 0))) (hc : c ≠ 0) :
    Calls Tryz.prog 11 #[.iface 53 (.pointer (some ⟨F, 0, none⟩))] w fun e w' => e = .returned (.tuple #[.int .i64 c, .int .i64 p, .bool true]) ∧ Below w.heap.size w w' := by
  have k0 : w.cell? ⟨F, 0, none⟩ = some (.int .i64 c) := cell_at h rfl
  have k1 : w.cell? ⟨F, 1, none⟩ = some (.int .i64 p) := cell_at h rfl
  have k2 : w.cell? ⟨F, 2, none⟩ = some .nilIface := cell_at h rfl
  have hcb : (c == 0) = false := beq_eq_false_iff_ne.2 hc
  have HH := Lib.hid h
  clear h
  go_enter Tryz.func11, Tryz.ntmps11
  have hta : ∀ w, (Instr.typeAssert (.iface 53 (.pointer (some ⟨F, 0, none⟩))) 30 53 true).run Tryz.prog w = .ok (.tuple #[.pointer (some ⟨F, 0, none⟩), .bool true]) w := fun w => by kernel_rfl
  go_upto_region 4 with (fail)
  go_wp2_with fail
  go_quiet (fail)
  go_wp2_with fail
  go_ret3
  exact ⟨rfl, below_drewNg w _⟩
end Go.Proofs.YtgmgghbocidibaaGreatDoor

/-
  storehouselaw15.examples, plain: what is said of the examples.
-/
namespace Go.Proofs.YtgmgghbocidibaaGreatDoor
open Go.RowKit

def exS : Bs := [60, 97, 62, 60, 98, 62, 120, 38, 97, 109, 112, 59, 121, 60, 47, 98, 62, 60, 99, 47, 62, 60, 47, 97, 62]
def exS2 : Bs := [60, 97, 62, 120, 60, 98, 47, 62, 60, 47, 97, 62]
def exT : Tree := .node ⟨#[97]⟩ ⟨#[]⟩ [.node ⟨#[98]⟩ ⟨#[120, 38, 121]⟩ [], .node ⟨#[99]⟩ ⟨#[]⟩ []]
def exW : Tree := .node ⟨#[97]⟩ ⟨#[60, 34]⟩ []
theorem ex_parse : parseL exS = .ok exT := by kernel_rfl
theorem ex_parse2 : parseL exS2 = .error (55, 4) := by kernel_rfl
theorem ex_write : wOut exW = (headC ++ [60, 97, 62, 38, 108, 116, 59, 38, 113, 117, 111, 116, 59, 60, 47, 97, 62], 0) := by kernel_rfl
theorem ex_text : textX exT.kids [98] = ([120, 38, 121], true) := by kernel_rfl
theorem ex_find : (exT.kids.filter (namedX [99])).length = 1 := by kernel_rfl
theorem same_refl : ∀ t : Tree, sameX t t = true := by
  apply treeInd
  intro n t ks ih
  have hk : ∀ ks' : List Tree, (∀ k ∈ ks', sameX k k = true) → sameKs ks' ks' = true := by
    intro ks'
    induction ks' with
    | nil => intro _; rfl
    | cons x xs ihx =>
      intro h
      unfold sameKs
      rw [h x (by simp), ihx fun k hk => h k (by simp [hk])]
      rfl
  unfold sameX
  simp [hk ks ih]
theorem ex_ok : okT exT = true := (parse_okT ex_parse).1
end Go.Proofs.YtgmgghbocidibaaGreatDoor

/-
  storehouselaw15.examples: all hold.
-/
namespace Go.Proofs.YtgmgghbocidibaaGreatDoor
open Go.RowKit Go.Lib Go.PlainAid

/-- an element's row is stored in a box of its own -/
theorem elem_box {w : World} {g : Nat} {es : Array Value} (hg : g = w.heap.size) (he : es.size = 3) : ((w.alloc (.cells elemZC 24)).setRow g es).heap[g]? = some (.cells es 24 (0, 0)) ∧ Below w.heap.size w ((w.alloc (.cells elemZC 24)).setRow g es) := by
  subst hg
  rw [setRow_alloc _ _ _ _ _ rfl]
  exact ⟨heap_alloc_new _ _, below_alloc (Below.refl _ _) (Nat.le_refl _) _⟩

set_option maxHeartbeats 8000000 in
set_option maxRecDepth 100000 in
theorem ex_walk {w : World} (hG : GlobX w) : Calls Tryz.prog 7 #[] w fun e w' => e = .returned (.bool true) ∧ Below w.heap.size w w' := by
  have HG := Lib.hid hG
  have HP1 : Hid (Calls Tryz.prog 9 #[.string ⟨exS.toArray⟩] w (ParseOut (.ok exT) w)) := by
    have h := Parse_any ⟨exS.toArray⟩ w hG (by decide)
    rw [show (⟨exS.toArray⟩ : ByteArray).data.toList = exS from rfl, ex_parse] at h
    exact h
  clear hG
  unfold exS at HP1
  go_enter Tryz.func7, Tryz.ntmps7
  go_wp2_with fail
  refine HP1.out.mono ?_
  rintro e W1 ⟨hb1, z, rfl, ho⟩
  obtain ⟨a, c, rfl, hT1⟩ := ho.form
  have B1 := Lib.hid hb1
  have T1 := Lib.hid hT1
  clear hb1 hT1 ho HP1
  go_upto_region 2 with (refine wpList_store_rowN (by rfl) 24 _ _ (by rfl) W1.heap.size (elC exT a c) (by rfl) (by rfl) 24 elemZC (by exact heap_alloc_new _ _) (by kernel_rfl) (by rfl) (by kernel_rfl) (fun W => W.heap[W1.heap.size]? = some (.cells (elC exT a c) 24 (0, 0)) ∧ Below W1.heap.size W1 W) (elem_box rfl rfl) ?_; rintro W2 h2)
  have X2 := Lib.hid h2.1
  have B2 := Lib.hid (B1.out.trans (h2.2.mono B1.out.size))
  have T2 := Lib.hid (T1.out.later h2.2)
  have HLT : Hid (w.heap.size ≤ W1.heap.size) := B1.out.size
  clear h2 T1 B1
  generalize W1.heap.size = g1 at *
  have HP2 : Hid (Calls Tryz.prog 9 #[.string ⟨exS2.toArray⟩] W2 (ParseOut (.error (55, 4)) W2)) := by
    have h := Parse_any ⟨exS2.toArray⟩ W2 (HG.out.later B2.out) (by decide)
    rw [show (⟨exS2.toArray⟩ : ByteArray).data.toList = exS2 from rfl, ex_parse2] at h
    exact h
  unfold exS2 at HP2
  go_wp2_with fail
  refine HP2.out.mono ?_
  rintro e W3 ⟨hb3, F, rfl, hF, hFl⟩
  have B3 := Lib.hid (B2.out.trans (hb3.mono B2.out.size))
  have X3 := Lib.hid ((hb3.block g1 (Array.getElem?_eq_some_iff.1 X2.out).1).trans X2.out)
  have T3 := Lib.hid (T2.out.later hb3)
  have HF3 := Lib.hid hF
  clear hb3 hF hFl T2 X2 B2 HP2
  go_upto_region 3 with (refine wpList_store_rowN (by rfl) 24 _ _ (by rfl) W3.heap.size elemZC (by rfl) (by rfl) 24 elemZC (by exact heap_alloc_new _ _) (by kernel_rfl) (by rfl) (by kernel_rfl) (fun W => Below W3.heap.size W3 W) ((elem_box rfl rfl).2) ?_; rintro W4 h4)
  have B4 := Lib.hid (B3.out.trans (h4.mono B3.out.size))
  have X4 := Lib.hid ((h4.block g1 (Array.getElem?_eq_some_iff.1 X3.out).1).trans X3.out)
  have T4 := Lib.hid (T3.out.later h4)
  have HTL := Lib.hid (told_fault (w := W4) ((h4.block F (Array.getElem?_eq_some_iff.1 HF3.out).1).trans HF3.out) (by decide))
  clear h4 T3 X3 B3 HF3
  go_wp2_with fail
  refine HTL.out.mono ?_
  rintro e W5 ⟨rfl, hb5⟩
  have B5 := Lib.hid (B4.out.trans (hb5.mono B4.out.size))
  have X5 := Lib.hid ((hb5.block g1 (Array.getElem?_eq_some_iff.1 X4.out).1).trans X4.out)
  have T5 := Lib.hid (T4.out.later hb5)
  have TW : Hid (ElemIn W5 exW none 0) := by
    show TreeIn _ _ _ _ _
    unfold exW TreeIn
    exact ⟨rfl, rfl, by decide, by decide, by decide, none, 0, rfl, by unfold KidsIn; trivial⟩
  have HW := Lib.hid (write_prog exW none 0 W5 TW.out (HG.out.later B5.out).c (fun _ => sm_of_short _ (by decide)))
  rw [ex_write] at HW
  clear hb5 T4 X4 B4 HTL
  go_upto_region 5 with (fail)
  refine HW.out.mono ?_
  rintro e W6 ⟨rfl, hb6⟩
  have B6 := Lib.hid (B5.out.trans (hb6.mono B5.out.size))
  have X6 := Lib.hid ((hb6.block g1 (Array.getElem?_eq_some_iff.1 X5.out).1).trans X5.out)
  have T6 := Lib.hid (T5.out.later hb6)
  have HTX := Lib.hid (Text_any exT [98] a c W6 T6.out)
  rw [ex_text] at HTX
  clear hb6 T5 X5 B5 HW TW
  go_upto_region 6 with (refine wpList_load_row (by rfl) 24 _ (by rfl) g1 (by rfl) 24 (elC exT a c) (0, 0) _ (by exact X6.out) Tryz.underlying24 rfl (by kernel_rfl) ?_)
  refine HTX.out.mono ?_
  rintro e W7 ⟨rfl, hb7⟩
  have B7 := Lib.hid (B6.out.trans (hb7.mono B6.out.size))
  have X7 := Lib.hid ((hb7.block g1 (Array.getElem?_eq_some_iff.1 X6.out).1).trans X6.out)
  have T7 := Lib.hid (T6.out.later hb7)
  obtain ⟨-, -, -, -, -, a', c', he, hK⟩ := T7.out.cells
  injection he with e1 _ e3
  subst e1 e3
  obtain ⟨b, off, a2, c2, rfl, hrg, -⟩ := kid_range (i := 0) hK rfl
  have q0 : W7.cell? ⟨g1, 0, none⟩ = some (.string ⟨#[97]⟩) := cell_at X7.out rfl
  have q2 : W7.cell? ⟨g1, 2, none⟩ = some (.slice (some ⟨b, off, none⟩) 2 c) := cell_at X7.out rfl
  have qt : W7.cell? ⟨b, off + 1, none⟩ = some (.string ⟨#[120, 38, 121]⟩) := hrg 1 _ rfl
  clear hb7 T6 X6 B6 HTX hK hrg
  have HFD := Lib.hid (Find_any exT [99] (some ⟨b, off, none⟩) c W7 T7.out)
  go_wp2_with (refine wpList_wanted (by go_simp) ?_; refine wp_load_row 24 _ (by rfl) g1 (by rfl) 24 (elC exT (some ⟨b, off, none⟩) c) (0, 0) _ (by exact X7.out) Tryz.underlying24 rfl (by kernel_rfl) ?_)
  refine HFD.out.mono ?_
  rintro e W8 ⟨v8, rfl, ho8, hb8⟩
  have B8 := Lib.hid (B7.out.trans (hb8.mono B7.out.size))
  have X8 := Lib.hid ((hb8.block g1 (Array.getElem?_eq_some_iff.1 X7.out).1).trans X7.out)
  have T8 := Lib.hid (T7.out.later hb8)
  have hv8 : ∃ p q, v8 = .slice p 1 q := by
    obtain ⟨p, q, hv⟩ := ho8.form
    rw [ex_find] at hv
    exact ⟨p, q, hv⟩
  obtain ⟨p8, q8, rfl⟩ := hv8
  have HSA := Lib.hid (Same_prog exT exT (some ⟨b, off, none⟩) (some ⟨b, off, none⟩) c c W8 T8.out T8.out (HG.out.later B8.out).c)
  rw [ex_ok, same_refl] at HSA
  clear ho8 hb8 T7 X7 B7 HFD q0 q2 qt
  go_wp2_with (refine wpList_wanted (by go_simp) ?_; refine wp_load_row 24 _ (by rfl) g1 (by rfl) 24 (elC exT (some ⟨b, off, none⟩) c) (0, 0) _ (by exact X8.out) Tryz.underlying24 rfl (by kernel_rfl) ?_)
  refine HSA.out.mono ?_
  rintro e W9 ⟨rfl, hb9⟩
  have B9 := Lib.hid (B8.out.trans (hb9.mono B8.out.size))
  clear hb9
  go_wp2_with fail
  go_ret
  exact ⟨rfl, B9.out⟩
end Go.Proofs.YtgmgghbocidibaaGreatDoor

/-
  storehouselaw15.copied: an element in memory of its own.
-/
namespace Go.Proofs.YtgmgghbocidibaaGreatDoor.Sep
open Go.RowKit Go.Lib

theorem OwnKs.kept {W W' : World} {base : Nat} {v : Value} {m : List Tree} (h : OwnKs W base v m) (hb : ∀ b, base ≤ b → b < W.heap.size → W'.heap[b]? = W.heap[b]?) (hs : W.heap.size ≤ W'.heap.size) : OwnKs W' base v m := by
  obtain ⟨xs, h1, h2⟩ := h.row
  refine ⟨xs, ⟨h1.1, ?_⟩, fun g hg => (SepKs.kept _ _ _ _ _ (fun b h1 h2 _ => hb b h1 h2) (h2 g hg)).high hs⟩
  rcases h1.2 with h | ⟨g, cap, cur, e, hg, hh, r⟩
  · exact .inl h
  · exact .inr ⟨g, cap, cur, e, hg, (hb g hg (Array.getElem?_eq_some_iff.1 hh).1).trans hh, r⟩
theorem OwnKs.tree {W : World} {base : Nat} {v : Value} {n t : ByteArray} {m : List Tree} (h : OwnKs W base v m) (hn : n.size ≤ maxRead) (ht : t.size ≤ maxRead) (hl : m.length ≤ 2513169434843) : OwnT W base (.node n t m) v := by
  obtain ⟨xs, h1, h2⟩ := h.row
  unfold OwnT SepT
  refine ⟨hn, ht, hl, ?_⟩
  rcases h1.2 with ⟨rfl, h0⟩ | ⟨g, cap, cur, rfl, hg, hh, _, _, _, hc⟩
  · obtain rfl := List.eq_nil_of_length_eq_zero h0
    exact ⟨none, 0, rfl, .inl rfl⟩
  · refine ⟨_, _, rfl, .inr ⟨g, cur, rfl, hg, (Array.getElem?_eq_some_iff.1 hh).1, hh, ?_⟩⟩
    have h3 := (h2 g rfl).more (cur.toList.drop (m.length * 3))
    rw [← hc, List.take_append_drop] at h3
    exact h3
/-- what the loop of copied keeps -/
structure CpAt (w W : World) (v : Value) (m : List Tree) (es : Array Value) : Prop where
  below : Below w.heap.size w W
  size : w.heap.size + 2 ≤ W.heap.size
  own : OwnKs W (w.heap.size + 2) v m
  e : W.heap[w.heap.size]? = some (.cells es 24 (0, 0))
  r : W.heap[w.heap.size + 1]? = some (.cells elemZC 24 (0, 0))
theorem CpAt.later {w W W' : World} {v : Value} {m : List Tree} {es : Array Value} (h : CpAt w W v m es) (hb : Below W.heap.size W W') : CpAt w W' v m es :=
  ⟨h.below.trans (hb.mono h.below.size), Nat.le_trans h.size hb.size, h.own.later hb, (hb.block _ (Array.getElem?_eq_some_iff.1 h.e).1).trans h.e, (hb.block _ (Array.getElem?_eq_some_iff.1 h.r).1).trans h.r⟩
def CopyC (t : Tree) : Prop := ∀ (a : Option Addr) (c : Nat) (w : World), ElemIn w t a c → Calls Tryz.prog 14 #[.agg (elC t a c)] w (TwinOut t w)

set_option maxHeartbeats 8000000 in
set_option maxRecDepth 100000 in
theorem copied_any : ∀ t, CopyC t := by
  apply treeInd
  intro n t ks ih a c w hT
  obtain ⟨i0, hi0, hz0, hz1, hz2⟩ := info_elem
  obtain ⟨-, -, hn, ht, hkl, a0, c0, he, hK⟩ := hT.cells
  simp only [Tree.name, Tree.text, Tree.kids] at hn ht hkl he hK
  injection he with e1 _ e3
  subst e1 e3
  have HIH := Lib.hid ih
  have HOUT : Hid (∀ (W : World) (z : Value), OwnT W w.heap.size (.node n t ks) z → Below w.heap.size w W → TwinOut (.node n t ks) w (.returned (.agg #[.string n, .string t, z])) W) := fun W z h1 h2 => ⟨z, rfl, h1, h2⟩
  have HTR : Hid (∀ (W : World) (base : Nat) (v : Value), OwnKs W base v ks → OwnT W base (.node n t ks) v) := fun W base v h => h.tree hn ht hkl
  simp only [elC, Tree.name, Tree.text, Tree.kids]
  obtain ⟨W0, hw0⟩ : ∃ W0, (w.alloc (.cells #[.string n, .string t, .slice a ks.length c] 24)).alloc (.cells elemZC 24) = W0 := ⟨_, rfl⟩
  have B0 : Below w.heap.size w W0 := by rw [← hw0]; exact below_alloc (below_alloc (Below.refl _ _) (Nat.le_refl _) _) (Nat.le_refl _) _
  have X0 : W0.heap[w.heap.size]? = some (.cells #[.string n, .string t, .slice a ks.length c] 24 (0, 0)) := by rw [← hw0]; exact heap_old _ (heap_alloc_new _ _)
  have Y0 : W0.heap[w.heap.size + 1]? = some (.cells elemZC 24 (0, 0)) := by rw [← hw0]; exact heap_at1 _ _ _
  have hsz0 : w.heap.size + 2 ≤ W0.heap.size := (Array.getElem?_eq_some_iff.1 Y0).1
  have HC0 : Hid (CpAt w W0 (.slice none 0 0) [] #[.string n, .string t, .slice a ks.length c]) := ⟨B0, hsz0, OwnKs.nil _ _, X0, Y0⟩
  have HK := Lib.hid hK
  clear hT hK ih X0 Y0 B0
  unfold elemZC at hw0
  go_enter Tryz.func14, Tryz.ntmps14
  go_upto_region 2 with (fail)
  clear hw0
  go_wp2_with fail
  go_loopg [3, 4] ks.length (fun gg s3 s4 wr => ∃ (i : Nat) (v : Value), i ≤ ks.length ∧ ks.length - i ≤ gg ∧ s3 = v ∧ s4 = .int .i64 i ∧ Hid (CpAt w wr v (ks.take i) #[.string n, .string t, .slice a ks.length c]))
  case atStart => exact ⟨0, _, Nat.zero_le _, by omega, rfl, rfl, HC0.out⟩
  case round =>
    obtain ⟨i, v, hi, hg, hv, rfl, HC⟩ := hrel
    have hv := hv.symm
    subst hv
    by_cases hlt : i < ks.length
    · have hiz : (i : Int) < (ks.length : Int) := by omega
      obtain ⟨k, hik⟩ : ∃ k, ks[i]? = some k := ⟨_, List.getElem?_eq_getElem hlt⟩
      obtain ⟨b, o, a2, c2, rfl, hr, hek⟩ := kid_range (KidsIn.later HC.out.below _ _ _ HK.out) hik
      have HR := Lib.hid hr
      have HCK := Lib.hid (HIH.out k (List.mem_of_getElem? hik) a2 c2 wr hek)
      have HTK : Hid (ks.take (i + 1) = ks.take i ++ [k]) := by show _ = _; rw [List.take_add_one, hik]; rfl
      have hml : (ks.take i).length ≤ i := by rw [List.length_take]; omega
      have k2 : wr.cell? ⟨w.heap.size, 2, none⟩ = some (.slice (some ⟨b, o, none⟩) ks.length c) := cell_at HC.out.e rfl
      clear hr hek hik
      go_wp2_with (refine wpList_load_mid (by rfl) 24 _ (by rfl) b (o + i * 3) (by rfl) [.string k.name, .string k.text, .slice a2 k.kids.length c2] _ HR.out Tryz.underlying24 rfl (by kernel_rfl) ?_)
      refine HCK.out.mono ?_
      rintro e W2 ⟨z, rfl, hz, hb2⟩
      obtain ⟨az, cz, rfl, -⟩ := hz.form
      have HZ := Lib.hid hz
      have HB2 := Lib.hid hb2
      clear hz hb2 HCK HR k2
      go_upto_region 6 with (refine wpList_store_rowN (by rfl) 24 _ _ (by rfl) W2.heap.size (elC k az cz) (by rfl) (by rfl) 24 elemZC (by exact heap_alloc_new _ _) (by kernel_rfl) (by rfl) (by kernel_rfl) (fun W => W.heap[W2.heap.size]? = some (.cells (elC k az cz) 24 (0, 0)) ∧ Below W2.heap.size W2 W) (elem_box rfl rfl) ?_; rintro W3 h3)
      have HX3 := Lib.hid h3.1
      have HZ3 := Lib.hid (HZ.out.later h3.2)
      have HB3 := Lib.hid (HB2.out.trans (h3.2.mono HB2.out.size))
      generalize W2.heap.size = g2 at *
      clear h3 HZ HB2
      obtain ⟨xs, ho1, ho2⟩ := HC.out.own.row
      obtain ⟨av, cv, rfl⟩ := HC.out.own.form
      have HO := Lib.hid (And.intro ho1 ho2)
      have hw1 : w.heap.size + 2 ≤ wr.heap.size := HC.out.size
      clear ho1 ho2
      generalize hm0 : ks.take i = m at *
      go_wp2_with (first
        | (refine wpList_load_row (by rfl) 24 _ (by rfl) g2 (by rfl) 24 #[.string k.name, .string k.text, .slice az k.kids.length cz] (0, 0) _ (by exact HX3.out) Tryz.underlying24 rfl (by kernel_rfl) ?_)
        | (at_builtin; refine wpList_append_lies _ (by rfl) _ _ 22 (by rfl) (w.heap.size + 2) 24 i0 _ 3 56 Tryz.underlying22 hi0 hz0 hz1 hz2 rfl (by decide) _ m.length xs (by rfl) (own_later' HO.out.1 (below_alloc HB3.out (Nat.le_refl _) _)) ⟨W3.heap.size, 0, none⟩ 1 1 [.string k.name, .string k.text, .slice az k.kids.length cz] (by rfl) (by rfl) ?c1 ?c2 (by decide) ?c3 ?c4 ?c5 _ rfl ?_))
      try (case c1 => exact fun j u hj => cells_new _ _ _ _ _ hj)
      try (case c2 => simp [Value.oneCell'])
      case c3 => simp only [maxLen]; omega
      case c4 => omega
      case c5 => have := HB3.out.size; simp; omega
      intro g cap W4 hown hgr hat hlt4
      have HP4 : Hid (CpAt w W4 (.slice (some ⟨g, 0, none⟩) (m.length + 1) cap) (m ++ [k]) #[.string n, .string t, .slice (some ⟨b, o, none⟩) ks.length c]) := by
        have hb3 : Below wr.heap.size wr (W3.alloc (.cells #[.string k.name, .string k.text, .slice az k.kids.length cz] 24)) := below_alloc HB3.out (Nat.le_refl _) _
        have hb23 : Below W3.heap.size W3 (W3.alloc (.cells #[.string k.name, .string k.text, .slice az k.kids.length cz] 24)) := below_alloc (Below.refl _ _) (Nat.le_refl _) _
        have hbase : ∀ q, (Value.slice av m.length cv).ownBlock = some q → w.heap.size + 2 ≤ q := fun q hq => (HO.out.1.lt q hq).1
        have hC := (HC.out.later hb3)
        have hkeep : ∀ q, q < w.heap.size + 2 → W4.heap[q]? = (W3.alloc (.cells #[.string k.name, .string k.text, .slice az k.kids.length cz] 24)).heap[q]? := fun q hq => hgr.block q (by have := hC.size; omega) (fun e => by have := hbase q e.symm; omega)
        exact ⟨⟨hgr.os.trans hC.below.os, hgr.tape.trans hC.below.tape, hgr.output.trans hC.below.output, Nat.le_trans hC.below.size hgr.size, fun q hq => (hkeep q (by omega)).trans (hC.below.block q hq)⟩, Nat.le_trans hC.size hgr.size, OwnKs.push hb3 hw1 HO.out.1 HO.out.2 (HZ3.out.later hb23) hown hgr (hat.imp id (fun e => by rw [e]; simp)), (hkeep _ (by omega)).trans hC.e, (hkeep _ (by omega)).trans hC.r⟩
      clear hown hgr hat
      go_wp2_with fail
      go_roundg (ks.length - (i + 1))
      case measure => omega
      case rel => exact ⟨i + 1, _, by omega, Nat.le_refl _, rfl, by go_num, by rw [HTK.out]; exact HP4.out⟩
    · obtain rfl : i = ks.length := by omega
      rw [List.take_length] at HC
      have k2 : wr.cell? ⟨w.heap.size, 2, none⟩ = some (.slice a ks.length c) := cell_at HC.out.e rfl
      obtain ⟨av, cv, rfl⟩ := HC.out.own.form
      go_upto_region 8 with (refine wpList_store_cellN (by rfl) 22 _ _ (by rfl) w.heap.size 2 (.slice av ks.length cv) (by rfl) (by rfl) (by rfl) 24 _ (by exact HC.out.e) (by exact Nat.le_of_ble_eq_true rfl) (by kernel_rfl) (fun W => CpAt w W (.slice av ks.length cv) ks #[.string n, .string t, .slice av ks.length cv]) (by exact ⟨below_one_row _ _ _ _ _ HC.out.below (Nat.le_refl _), by have := HC.out.size; simpa using this, HC.out.own.kept (fun q h1 h2 => setRow_other _ _ _ _ (by omega)) (by simp), setRow_heap _ _ _ _ _ _ HC.out.e, (setRow_other _ _ _ _ (by omega)).trans HC.out.r⟩) ?_; rintro W5 h5)
      have H5 := Lib.hid h5
      clear h5 HC k2
      go_wp2_with (first
        | (refine wpList_load_row (by rfl) 24 _ (by rfl) w.heap.size (by rfl) 24 #[.string n, .string t, .slice av ks.length cv] (0, 0) _ (by exact H5.out.e) Tryz.underlying24 rfl (by kernel_rfl) ?_)
        | (refine wpList_store_row (by rfl) 24 _ _ (by rfl) (w.heap.size + 1) #[.string n, .string t, .slice av ks.length cv] (by rfl) (by rfl) 24 elemZC (by exact H5.out.r) (by kernel_rfl) (by rfl) (by kernel_rfl) ?_))
      refine bodyPost_ret (results_cell_row rfl _ _ (w.heap.size + 1) 24 _ _ _ rfl (setRow_heap _ _ _ _ _ _ H5.out.r) Tryz.underlying24 rfl (by kernel_rfl)) rfl ?_
      refine HOUT.out _ _ ?_ ?_
      · exact (HTR.out _ _ _ (H5.out.own.kept (W' := _) (fun q h1 h2 => setRow_other _ _ _ _ (by omega)) (by simp))).base (by omega)
      · exact below_one_row _ _ _ _ _ H5.out.below (by omega)
end Go.Proofs.YtgmgghbocidibaaGreatDoor.Sep
