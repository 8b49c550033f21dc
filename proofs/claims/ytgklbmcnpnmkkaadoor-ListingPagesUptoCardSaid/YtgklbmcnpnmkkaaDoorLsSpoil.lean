/-
  storehouselaw20.spoil: a page is its owner's: only blocks of its own are changed.
-/
import Derived.Test.YtgklbmcnpnmkkaaDoorLsCopied
import Derived.Test.YtgklbmcnpnmkkaaDoorLsRPg
namespace Go.Proofs.YtgklbmcnpnmkkaaDoor
open Go.RowKit Go.Lib

theorem own_block {w : World} {base : Nat} {e : TypeId} {sz : Nat} {v : Value} {n : Nat} {xs : List Value} (h : w.ownsRow base e sz v n xs) (hn : 0 < n) : ∃ (g cap : Nat) (cur : Array Value), v = .slice (some ⟨g, 0, none⟩) n cap ∧ base ≤ g ∧ w.heap[g]? = some (.cells cur e (0, 0)) ∧ n * sz ≤ cur.size := by
  rcases h.2 with ⟨_, h0⟩ | ⟨g, cap, cur, hv, hb, hg, hc, _, hs, _⟩
  · omega
  · exact ⟨g, cap, cur, hv, hb, hg, by rw [hs]; exact Nat.mul_le_mul_right _ hc⟩
/-- blocks of cells are as long as they were -/
def Shp (w W : World) : Prop := ∀ (g : Nat) (t : TypeId) (cur : Array Value), w.heap[g]? = some (.cells cur t (0, 0)) → ∃ cur' : Array Value, W.heap[g]? = some (.cells cur' t (0, 0)) ∧ cur'.size = cur.size
theorem Shp.refl (w : World) : Shp w w := fun _ _ cur h => ⟨cur, h, rfl⟩
theorem Shp.later {w W W' : World} (h : Shp w W) (hb : Below W.heap.size W W') : Shp w W' := fun g t cur hg => by
  obtain ⟨c, h1, h2⟩ := h g t cur hg
  exact ⟨c, (hb.block _ (Array.getElem?_eq_some_iff.1 h1).1).trans h1, h2⟩
theorem Shp.set {w W : World} (h : Shp w W) {g : Nat} {t : TypeId} {old new : Array Value} (hg : W.heap[g]? = some (.cells old t (0, 0))) (hs : new.size = old.size) : Shp w (W.setRow g new) := fun g' t' cur hg' => by
  obtain ⟨c, h1, h2⟩ := h g' t' cur hg'
  by_cases he : g' = g
  · subst he
    rw [hg] at h1
    injection h1 with h1
    injection h1 with h1 h3 _
    subst h1 h3
    exact ⟨new, setRow_heap _ _ _ _ _ _ hg, hs.trans h2⟩
  · exact ⟨c, (setRow_other _ _ _ _ he).trans h1, h2⟩
/-- a page that is spoilt, up to row i: what follows lies as it was -/
structure SpA (w W : World) (base top gp : Nat) (vr : Value) (p : PageD) (b : Nat) (qs : List RowV) (i : Nat) : Prop where
  chg : Chg w W (fun x => base ≤ x ∧ x < top)
  shp : Shp w W
  page : W.heap[gp]? = some (.cells (pgC vr p) 26 (0, 0))
  past : top ≤ gp
  size : top ≤ w.heap.size
  rows : ∀ j q, i ≤ j → qs[j]? = some q → W.rangeAt b (j * 18) q.cells
theorem SpA.later {w W W' : World} {base top gp : Nat} {vr : Value} {p : PageD} {b : Nat} {qs : List RowV} {i : Nat} (h : SpA w W base top gp vr p b qs i) (hb : Below W.heap.size W W') : SpA w W' base top gp vr p b qs i :=
  ⟨h.chg.below_on hb, h.shp.later hb, (hb.block _ (Array.getElem?_eq_some_iff.1 h.page).1).trans h.page, h.past, h.size, fun j q hj hq k u hu => cell_later hb (h.rows j q hj hq k u hu)⟩
theorem Chg.setRow_on {A B : World} {M : Nat → Prop} (h : Chg A B M) {g : Nat} (new : Array Value) (hm : M g) : Chg A (B.setRow g new) M :=
  ⟨h.os, h.tape, h.output, by have := h.size; simpa using this, fun k hk hn => (setRow_other _ _ _ _ (fun e => hn (by rw [e]; exact hm))).trans (h.block k hk hn)⟩
/-- another block of the page's is written -/
theorem SpA.set {w W : World} {base top gp : Nat} {vr : Value} {p : PageD} {b : Nat} {qs : List RowV} {i g : Nat} {t : TypeId} {old new : Array Value} (h : SpA w W base top gp vr p b qs i) (hg : W.heap[g]? = some (.cells old t (0, 0))) (hs : new.size = old.size) (h1 : base ≤ g) (h2 : g < top) (hb : g ≠ b) : SpA w (W.setRow g new) base top gp vr p b qs i :=
  ⟨h.chg.setRow_on new ⟨h1, h2⟩, h.shp.set hg hs, (setRow_other _ _ _ _ (by have := h.past; omega)).trans h.page, h.past, h.size, fun j q hj hq k u hu => by
    rw [World.cell?_of_block (w := W) (setRow_other _ _ _ _ (Ne.symm hb))]; exact h.rows j q hj hq k u hu⟩
theorem partSet_past {old : Array Value} {o k : Nat} {vs : List Value} (h : o + vs.length ≤ k) (hs : o + vs.length ≤ old.size) : (partSet old o vs)[k]? = old[k]? := by
  have h1 : (partSet old o vs).toList = old.toList.take o ++ vs ++ old.toList.drop (o + vs.length) := rfl
  have hl : (old.toList.take o ++ vs).length = o + vs.length := by rw [List.length_append, List.length_take, Array.length_toList]; omega
  rw [← Array.getElem?_toList, h1, List.getElem?_append_right (by omega), List.getElem?_drop, hl, Nat.add_sub_cancel' h, Array.getElem?_toList]
/-- a row itself is written -/
theorem SpA.row {w W : World} {base top gp : Nat} {vr : Value} {p : PageD} {b : Nat} {qs : List RowV} {i : Nat} {t : TypeId} {old : Array Value} {vs : List Value} (h : SpA w W base top gp vr p b qs i) (hg : W.heap[b]? = some (.cells old t (0, 0))) (hs : i * 18 + vs.length ≤ old.size) (hv : vs.length = 18) (h1 : base ≤ b) (h2 : b < top) : SpA w (W.setRow b (partSet old (i * 18) vs)) base top gp vr p b qs (i + 1) :=
  ⟨h.chg.setRow_on _ ⟨h1, h2⟩, h.shp.set hg (partSet_size hs), (setRow_other _ _ _ _ (by have := h.past; omega)).trans h.page, h.past, h.size, fun j q hj hq k u hu => by
    have h3 := h.rows j q (by omega) hq k u hu
    have hlen : i * 18 + 18 ≤ j * 18 := by omega
    have hk : k < 18 := (List.getElem?_eq_some_iff.1 hu).1
    rw [cell_of_heap hg] at h3
    rw [cell_of_heap (setRow_heap _ _ _ _ _ _ hg), partSet_past (by omega) hs]
    exact h3⟩
/-- an own row of cells, still as long -/
theorem Shp.block {w W : World} (h : Shp w W) {base : Nat} {e : TypeId} {sz : Nat} {v : Value} {n : Nat} {xs : List Value} (ho : w.ownsRow base e sz v n xs) (hn : 0 < n) : ∃ (g cap : Nat) (cur : Array Value), v = .slice (some ⟨g, 0, none⟩) n cap ∧ base ≤ g ∧ g < w.heap.size ∧ W.heap[g]? = some (.cells cur e (0, 0)) ∧ n * sz ≤ cur.size ∧ ∃ old : Array Value, w.heap[g]? = some (.cells old e (0, 0)) := by
  obtain ⟨g, cap, cur, hv, hb, hg, hs⟩ := own_block ho hn
  obtain ⟨cur', h1, h2⟩ := h g e cur hg
  exact ⟨g, cap, cur', hv, hb, (Array.getElem?_eq_some_iff.1 hg).1, h1, by rw [h2]; exact hs, cur, hg⟩
theorem ne_of_types {w : World} {a b : Nat} {ta tb : TypeId} {ca cb : Array Value} (h1 : w.heap[a]? = some (.cells ca ta (0, 0))) (h2 : w.heap[b]? = some (.cells cb tb (0, 0))) (h : ta ≠ tb) : a ≠ b := by
  rintro rfl
  rw [h1] at h2
  injection h2 with h2
  injection h2 with _ h2 _
  exact h h2
/-- .. and the row that a round has read -/
structure SpR (w W : World) (base top gp : Nat) (vr : Value) (p : PageD) (b : Nat) (qs : List RowV) (i g3 : Nat) (q : RowV) : Prop where
  a : SpA w W base top gp vr p b qs i
  row : W.heap[g3]? = some (.cells q.cells.toArray 36 (0, 0))
  far : top ≤ g3
theorem SpR.set {w W : World} {base top gp : Nat} {vr : Value} {p : PageD} {b : Nat} {qs : List RowV} {i g3 g : Nat} {q : RowV} {t : TypeId} {old new : Array Value} (h : SpR w W base top gp vr p b qs i g3 q) (hg : W.heap[g]? = some (.cells old t (0, 0))) (hs : new.size = old.size) (h1 : base ≤ g) (h2 : g < top) (hb : g ≠ b) : SpR w (W.setRow g new) base top gp vr p b qs i g3 q :=
  ⟨h.a.set hg hs h1 h2 hb, (setRow_other _ _ _ _ (by have := h.far; omega)).trans h.row, h.far⟩
def partZ : List Value := [.int .i64 0, .int .i64 0, .int .i64 0, .string ⟨#[]⟩, .int .i64 0]

/-- blocks that a page has are below a place -/
def OwnBelow (top : Nat) (vr : Value) (qs : List RowV) : Prop := (∀ g, vr.ownBlock = some g → g < top) ∧ ∀ q ∈ qs, ∀ g, q.vb.ownBlock = some g ∨ q.vp.ownBlock = some g → g < top
theorem RowsOwn.ownBelow {w : World} {base : Nat} {vr : Value} {qs : List RowV} (h : RowsOwn w base vr qs) : OwnBelow w.heap.size vr qs :=
  ⟨fun g hg => (h.own.lt g hg).2, fun q hq g hg => by rcases hg with hg | hg; exact ((h.rows q hq).blobs.lt g hg).2; exact ((h.rows q hq).parts.lt g hg).2⟩

set_option maxHeartbeats 8000000 in
set_option maxRecDepth 100000 in
theorem spoil_any {w : World} {base : Nat} {vr : Value} {p : PageD} {qs : List RowV} {top : Nat} (h : RowsOwn w base vr qs) (ht : OwnBelow top vr qs) (htw : top ≤ w.heap.size) (hl : qs.length ≤ 16777216) (hz : ∀ q ∈ qs, SizeOK q.d) :
    Calls Tryd.prog 23 #[.agg (pgC vr p)] w fun e w' => (∃ v, e = .returned v) ∧ Chg w w' (fun x => base ≤ x ∧ x < top) := by
  obtain ⟨av, cv, rfl⟩ := own_form h.own
  have HR := Lib.hid h
  have HZ := Lib.hid hz
  have HT := Lib.hid ht
  clear h hz ht
  unfold pgC
  go_enter Tryd.func23, Tryd.ntmps23
  obtain ⟨w0, hw0⟩ : ∃ w0, w.alloc (.cells (pgC (.slice av qs.length cv) p) 26) = w0 := ⟨_, rfl⟩
  have B0 : Below w.heap.size w w0 := by rw [← hw0]; exact below_alloc (Below.refl _ _) (Nat.le_refl _) _
  have H0 : Hid (w0.heap[w.heap.size]? = some (.cells (pgC (.slice av qs.length cv) p) 26 (0, 0))) := by show _ = _; rw [← hw0]; exact heap_alloc_new _ _
  have HR0 := Lib.hid (HR.out.later B0)
  have HB0 := Lib.hid B0
  obtain ⟨b, HBL⟩ : ∃ b, Hid (0 < qs.length → av = some ⟨b, 0, none⟩ ∧ base ≤ b ∧ b < top ∧ ∃ old : Array Value, w0.heap[b]? = some (.cells old 36 (0, 0)) ∧ qs.length * 18 ≤ old.size) := by
    by_cases hn : 0 < qs.length
    · obtain ⟨g, cap, cur, hv, hb, hg, hs⟩ := own_block HR.out.own hn
      injection hv with hv _ _
      have hlt := (Array.getElem?_eq_some_iff.1 hg).1
      exact ⟨g, fun _ => ⟨hv, hb, HT.out.1 g (by rw [hv]; rfl), cur, (B0.block _ hlt).trans hg, hs⟩⟩
    · exact ⟨0, fun h => absurd h hn⟩
  have HS0 : Hid (SpA w0 w0 base top w.heap.size (.slice av qs.length cv) p b qs 0) := by
    refine ⟨Chg.refl _ _, Shp.refl _, H0.out, htw, Nat.le_trans htw B0.size, fun j q _ hq => ?_⟩
    have hn : 0 < qs.length := by have := (List.getElem?_eq_some_iff.1 hq).1; omega
    obtain ⟨b', o', he, hc⟩ := HR0.out.at (by omega) hq
    rw [(HBL.out hn).1] at he
    injection he with he
    injection he with e1 e2 _
    subst e1 e2
    intro k u hu
    have := hc k u hu
    rwa [Nat.zero_add] at this
  unfold pgC at hw0
  go_upto_region 1 with (fail)
  clear hw0 B0
  go_wp2_with fail
  go_loopg [2] qs.length (fun gg s2 wr => ∃ i : Nat, i ≤ qs.length ∧ qs.length - i ≤ gg ∧ s2 = .int .i64 i ∧ Hid (SpA w0 wr base top w.heap.size (.slice av qs.length cv) p b qs i))
  case atStart => exact ⟨0, Nat.zero_le _, by omega, rfl, HS0.out⟩
  case round =>
    obtain ⟨i, hin, hgg, rfl, HS⟩ := hrel
    have c0 : wr.cell? ⟨w.heap.size, 0, none⟩ = some (.slice av qs.length cv) := cell_at HS.out.page rfl
    by_cases hlt : i < qs.length
    · have hiz : (i : Int) < (qs.length : Int) := by omega
      obtain ⟨rfl, hbb, hbw, old0, hold0, hold1⟩ := HBL.out (by omega)
      obtain ⟨q, hiq⟩ : ∃ q, qs[i]? = some q := ⟨_, List.getElem?_eq_getElem hlt⟩
      have hqm := List.mem_of_getElem? hiq
      have hqr := HR0.out.rows q hqm
      have HC := Lib.hid (HS.out.rows i q (Nat.le_refl _) hiq)
      have HQO := Lib.hid hqr.one_mem
      have HQR := Lib.hid hqr
      have HQW := Lib.hid (HT.out.2 q hqm)
      obtain ⟨ab, cb, hvb⟩ := own_form hqr.blobs
      obtain ⟨ap, cp, hvp⟩ := own_form hqr.parts
      have hqz := HZ.out q hqm
      have hz1 := hqz.1
      have hz2 := hqz.2
      clear hqm hqr hiq hqz
      go_upto_region 5 with (first
        | (refine wpList_load_mid (by rfl) 36 _ (by rfl) b (i * 18) (by rfl) q.cells _ HC.out Tryd.underlying36 rfl (by rfl) ?_)
        | (refine wpList_store_rowN (by rfl) 36 _ _ (by rfl) wr.heap.size q.cells.toArray (by rfl) (by rfl) 36 rowZC (by exact heap_alloc_new _ _) (by kernel_rfl) (by rfl) (by rw [List.all_toArray, List.all_eq_true]; exact HQO.out) (fun W => W.heap[wr.heap.size]? = some (.cells q.cells.toArray 36 (0, 0)) ∧ Below wr.heap.size wr W) (by rw [setRow_alloc _ _ _ _ _ rfl]; exact ⟨heap_alloc_new _ _, below_alloc (Below.refl _ _) (Nat.le_refl _) _⟩) ?_; rintro W1 hW1))
      have HQ1 : Hid (SpR w0 W1 base top w.heap.size (.slice (some ⟨b, 0, none⟩) qs.length cv) p b qs i wr.heap.size q) := ⟨HS.out.later hW1.2, hW1.1, Nat.le_trans HS.out.size HS.out.chg.size⟩
      generalize wr.heap.size = g3 at *
      clear hW1 c0 HC
      go_wp2_with fail
      go_loopg [4] q.d.ver.blobs.length (fun gg s4 wr => ∃ k : Nat, k ≤ q.d.ver.blobs.length ∧ q.d.ver.blobs.length - k ≤ gg ∧ s4 = .int .i64 k ∧ Hid (SpR w0 wr base top w.heap.size (.slice (some ⟨b, 0, none⟩) qs.length cv) p b qs i g3 q))
      case atStart => exact ⟨0, Nat.zero_le _, by omega, rfl, HQ1.out⟩
      case round =>
        obtain ⟨k, hk, hgk, rfl, HK⟩ := hrel
        have c10 : wr.cell? ⟨g3, 10, none⟩ = some (.slice ab q.d.ver.blobs.length cb) := cell_at HK.out.row (by show some q.vb = _; rw [hvb])
        by_cases hklt : k < q.d.ver.blobs.length
        · have hkz : (k : Int) < (q.d.ver.blobs.length : Int) := by omega
          obtain ⟨g, cap, cur, hv, hg1, hg2, hg3, hg4, old, hg5⟩ := HK.out.a.shp.block HQR.out.blobs (by omega)
          rw [hvb] at hv
          injection hv with e1 e2 e3
          subst e1 e3
          have HG := Lib.hid hg3
          have hgb : g ≠ b := ne_of_types hg5 hold0 (by decide)
          have HN : Hid (g < top) := HQW.out g (.inl (by rw [hvb]; rfl))
          clear hg3 hg5
          go_wp2_with (refine wpList_store_cellN (by rfl) 3 _ _ (by rfl) g k (.int .i64 (-1)) (by rfl) (by rfl) (by rfl) 3 cur (by exact HG.out) (by omega) (by kernel_rfl) (fun W => SpR w0 W base top w.heap.size (.slice (some ⟨b, 0, none⟩) qs.length cv) p b qs i g3 q) (by exact HK.out.set HG.out (partSet_size (by simp only [List.length_singleton]; omega)) hg1 HN.out hgb) ?_; clear HG HK c10; rintro W2 hW2)
          have HW2 := Lib.hid hW2
          go_roundg (q.d.ver.blobs.length - (k + 1))
          case measure => omega
          case rel => exact ⟨k + 1, by omega, Nat.le_refl _, vnext, HW2.out⟩
        · obtain rfl : k = q.d.ver.blobs.length := by omega
          go_wp2_with fail
          clear c10
          have HK0 := Lib.hid HK.out
          clear HK
          go_loopg [5] q.d.upl.parts.length (fun gg s5 wr => ∃ k : Nat, k ≤ q.d.upl.parts.length ∧ q.d.upl.parts.length - k ≤ gg ∧ s5 = .int .i64 k ∧ Hid (SpR w0 wr base top w.heap.size (.slice (some ⟨b, 0, none⟩) qs.length cv) p b qs i g3 q))
          case atStart => exact ⟨0, Nat.zero_le _, by omega, rfl, HK0.out⟩
          case round =>
            obtain ⟨k, hk, hgk, rfl, HK⟩ := hrel
            have c17 : wr.cell? ⟨g3, 17, none⟩ = some (.slice ap q.d.upl.parts.length cp) := cell_at HK.out.row (by show some q.vp = _; rw [hvp])
            by_cases hklt : k < q.d.upl.parts.length
            · have hkz : (k : Int) < (q.d.upl.parts.length : Int) := by omega
              obtain ⟨g, cap, cur, hv, hg1, hg2, hg3, hg4, old, hg5⟩ := HK.out.a.shp.block HQR.out.parts (by omega)
              rw [hvp] at hv
              injection hv with e1 e2 e3
              subst e1 e3
              have HG := Lib.hid hg3
              have hgb : g ≠ b := ne_of_types hg5 hold0 (by decide)
              have HN : Hid (g < top) := HQW.out g (.inr (by rw [hvp]; rfl))
              have hsz : k * 5 + 5 ≤ cur.size := by omega
              clear hg3 hg5
              go_wp2_with (refine wpList_store_partN (by rfl) 68 _ _ (by rfl) g (k * 5) partZ (by rfl) (by rfl) 68 cur (by exact HG.out) (by exact hsz) (by kernel_rfl) (by kernel_rfl) (fun W => SpR w0 W base top w.heap.size (.slice (some ⟨b, 0, none⟩) qs.length cv) p b qs i g3 q) (by exact HK.out.set HG.out (partSet_size hsz) hg1 HN.out hgb) ?_; clear HG HK c17; rintro W2 hW2)
              have HW2 := Lib.hid hW2
              go_roundg (q.d.upl.parts.length - (k + 1))
              case measure => omega
              case rel => exact ⟨k + 1, by omega, Nat.le_refl _, vnext, HW2.out⟩
            · obtain rfl : k = q.d.upl.parts.length := by omega
              have c0 : wr.cell? ⟨w.heap.size, 0, none⟩ = some (.slice (some ⟨b, 0, none⟩) qs.length cv) := cell_at HK.out.a.page rfl
              obtain ⟨cur, hc1, hc2⟩ := HK.out.a.shp _ _ _ hold0
              have HC1 := Lib.hid hc1
              have hsz : i * 18 + 18 ≤ cur.size := by omega
              clear hc1
              go_wp2_with (refine wpList_store_partN (by rfl) 36 _ _ (by rfl) b (i * 18) rowZC.toList (by rfl) (by rfl) 36 cur (by exact HC1.out) (by exact hsz) (by kernel_rfl) (by kernel_rfl) (fun W => SpA w0 W base top w.heap.size (.slice (some ⟨b, 0, none⟩) qs.length cv) p b qs (i + 1)) (by exact HK.out.a.row HC1.out hsz rfl hbb hbw) ?_; clear HC1 HK c17 c0; rintro W2 hW2)
              have HW2 := Lib.hid hW2
              go_roundg (qs.length - (i + 1))
              case measure => omega
              case rel => exact ⟨i + 1, by omega, Nat.le_refl _, vnext, HW2.out⟩
    · obtain rfl : i = qs.length := by omega
      go_wp2_with fail
      go_end0
      refine ⟨⟨_, rfl⟩, ?_⟩
      exact ((Chg.of_below HB0.out).trans (HS.out.chg.mono fun k _ hk => hk))
end Go.Proofs.YtgklbmcnpnmkkaaDoor
