/-
  storehouselaw20.copied: rows in memory of their own, one more behind. (Printed by wip/gen/lscopied.py.)
-/
import Derived.Test.YtgklbmcnpnmkkaaDoorLsArms
import Derived.Test.YtgklbmcnpnmkkaaDoorLsRTold
import Derived.Test.YtgklbmcnpnmkkaaDoorLsIterP
import Derived.Test.YtgklbmcnpnmkkaaDoorHeldLast
namespace Go.Proofs.YtgklbmcnpnmkkaaDoor
open Go.RowKit Go.Lib

/-- a copy under way: what was copied lies in block g -/
structure CopyR (w W : World) (g n i : Nat) (ps xs : List RowV) (cur : Array Value) : Prop where
  below : Below w.heap.size w W
  past : w.heap.size ≤ g
  at_ : W.heap[g]? = some (.cells cur 36 (0, 0))
  size : cur.size = (n + 1) * 18
  rows : cur.toList.take (i * 18) = (xs.map RowV.cells).flatten
  says : xs.map RowV.d = (ps.map RowV.d).take i
  own : ∀ q ∈ xs, RowOwn W (g + 1) q
  len : xs.length = i
theorem CopyR.later {w W W' : World} {g n i : Nat} {ps xs : List RowV} {cur : Array Value} (h : CopyR w W g n i ps xs cur) (hb : Below W.heap.size W W') : CopyR w W' g n i ps xs cur :=
  ⟨h.below.trans (hb.mono h.below.size), h.past, (hb.block _ (Array.getElem?_eq_some_iff.1 h.at_).1).trans h.at_, h.size, h.rows, h.says, fun q hq => (h.own q hq).later hb, h.len⟩
theorem RowOwn.set {w : World} {base g : Nat} {q : RowV} (h : RowOwn w base q) (new : Array Value) (hg : g < base) : RowOwn (w.setRow g new) base q := ⟨own_set h.blobs new hg, own_set h.parts new hg⟩
theorem partSet_size {old : Array Value} {o : Nat} {vs : List Value} (h : o + vs.length ≤ old.size) : (partSet old o vs).size = old.size := by
  unfold partSet
  simp only [List.size_toArray, List.length_append, List.length_take, List.length_drop, Array.length_toList]
  omega
theorem partSet_take {old : Array Value} {o : Nat} {vs : List Value} (h : o + vs.length ≤ old.size) : (partSet old o vs).toList.take (o + vs.length) = old.toList.take o ++ vs := by
  unfold partSet
  have hl : (old.toList.take o ++ vs).length = o + vs.length := by
    rw [List.length_append, List.length_take, Array.length_toList]
    omega
  show ((old.toList.take o ++ vs) ++ old.toList.drop (o + vs.length)).take (o + vs.length) = _
  rw [← hl, List.take_left]
theorem CopyR.fits {w W : World} {g n i : Nat} {ps xs : List RowV} {cur : Array Value} (h : CopyR w W g n i ps xs cur) (hi : i ≤ n) (q : RowV) : i * 18 + q.cells.length ≤ cur.size := by
  rw [h.size, q.len]
  omega
/-- one row more -/
theorem CopyR.put {w W : World} {g n i : Nat} {ps xs : List RowV} {cur : Array Value} (h : CopyR w W g n i ps xs cur) (hi : i < n) {p q : RowV} (hp : ps[i]? = some p) (hd : q.d = p.d) (hq : RowOwn W (g + 1) q) : CopyR w (W.setRow g (partSet cur (i * 18) q.cells)) g n (i + 1) ps (xs ++ [q]) (partSet cur (i * 18) q.cells) := by
  have hf := h.fits (by omega) q
  refine ⟨below_one_row _ _ _ _ _ h.below h.past, h.past, setRow_heap _ _ _ _ _ _ h.at_, by rw [partSet_size hf, h.size], ?_, ?_, fun x hx => ?_, by simp [h.len]⟩
  · rw [show (i + 1) * 18 = i * 18 + q.cells.length by rw [q.len]; omega, partSet_take hf, h.rows]
    simp
  · rw [List.map_append, h.says, List.take_add_one, List.getElem?_map, hp]
    simp [hd]
  · rcases List.mem_append.1 hx with hx | hx
    · exact (h.own x hx).set _ (Nat.lt_succ_self _)
    · rw [List.mem_singleton.1 hx]; exact hq.set _ (Nat.lt_succ_self _)
def markV : RowV := ⟨{ rowZ with key := [109, 97, 114, 107] }, nilV, nilV⟩
/-- the mark behind -/
theorem CopyR.mark {w W : World} {g n : Nat} {ps xs : List RowV} {cur : Array Value} (h : CopyR w W g n n ps xs cur) (hl : ps.length = n) (hn : n + 1 ≤ maxLen) :
    RowsOwn (W.setRow g (partSet cur (n * 18) markV.cells)) w.heap.size (.slice (some ⟨g, 0, none⟩) (n + 1) (n + 1)) (xs ++ [markV]) ∧ xs.map RowV.d = ps.map RowV.d ∧ Below w.heap.size w (W.setRow g (partSet cur (n * 18) markV.cells)) := by
  have hf := h.fits (Nat.le_refl _) markV
  have hlen : (xs ++ [markV]).length = n + 1 := by simp [h.len]
  refine ⟨⟨?_, fun x hx => ?_⟩, ?_, below_one_row _ _ _ _ _ h.below h.past⟩
  · rw [hlen]
    have hfl : ((xs ++ [markV]).map RowV.cells).flatten = (xs.map RowV.cells).flatten ++ markV.cells := by simp
    refine ⟨by rw [flatten_len (sz := 18) (fun r hr => by obtain ⟨_, _, rfl⟩ := List.mem_map.1 hr; rfl), List.length_map, hlen], .inr ⟨g, n + 1, _, rfl, h.past, setRow_heap _ _ _ _ _ _ h.at_, Nat.le_refl _, hn, by rw [partSet_size hf, h.size], ?_⟩⟩
    rw [show (n + 1) * 18 = n * 18 + markV.cells.length by rw [markV.len]; omega, partSet_take hf, h.rows, hfl]
  · rcases List.mem_append.1 hx with hx | hx
    · exact ((h.own x hx).set _ (Nat.lt_succ_self _)).base (Nat.le_succ_of_le h.past)
    · rw [List.mem_singleton.1 hx]; exact ⟨World.ownsRow_nil _ _ _ _, World.ownsRow_nil _ _ _ _⟩
  · rw [h.says, List.take_of_length_le (by rw [List.length_map]; omega)]
/-- the row that a round copies -/
structure RowR (wr W : World) (g5 : Nat) (q : RowV) : Prop where
  at_ : W.heap[g5]? = some (.cells q.cells.toArray 36 (0, 0))
  below : Below g5 wr W
  here : wr.heap.size = g5
theorem RowR.later {wr W W' : World} {g5 : Nat} {q : RowV} (h : RowR wr W g5 q) (hb : Below W.heap.size W W') : RowR wr W' g5 q :=
  have hs := (Array.getElem?_eq_some_iff.1 h.at_).1
  ⟨(hb.block _ hs).trans h.at_, h.below.trans (hb.mono (Nat.le_of_lt hs)), h.here⟩
theorem RowR.set {wr W : World} {g5 : Nat} {q q' : RowV} (h : RowR wr W g5 q) {new : Array Value} (hn : new = q'.cells.toArray) : RowR wr (W.setRow g5 new) g5 q' := by
  subst hn
  exact ⟨setRow_heap _ _ _ _ _ _ h.at_, below_one_row _ _ _ _ _ h.below (Nat.le_refl _), h.here⟩
theorem RowR.lt {wr W : World} {g5 : Nat} {q : RowV} (h : RowR wr W g5 q) : g5 < W.heap.size := (Array.getElem?_eq_some_iff.1 h.at_).1
theorem RowIn.one_mem {w : World} {p : RowV} (h : RowIn w p) : p.cells.all (·.oneCell') = true := by
  obtain ⟨a, c, h1, _⟩ := h.blobs
  obtain ⟨a', c', h2, _⟩ := h.parts
  simp only [RowV.cells, h1, h2]
  rfl
def CopiedOut (ps : List RowV) (w : World) (e : Ending) (w' : World) : Prop :=
  ∃ (g : Nat) (xs : List RowV), e = .returned (.slice (some ⟨g, 0, none⟩) (ps.length + 1) (ps.length + 1)) ∧ RowsOwn w' w.heap.size (.slice (some ⟨g, 0, none⟩) (ps.length + 1) (ps.length + 1)) (xs ++ [markV]) ∧ xs.map RowV.d = ps.map RowV.d ∧ Below w.heap.size w w'

set_option maxHeartbeats 8000000 in
set_option maxRecDepth 100000 in
theorem copied_any {w : World} {a0 : Option Addr} {c0 : Nat} {ps : List RowV} (h : RowsIn w (.slice a0 ps.length c0) ps) (hz : ∀ p ∈ ps, SizeOK p.d) (hl : ps.length ≤ 16777216) :
    Calls Tryd.prog 17 #[.slice a0 ps.length c0] w (CopiedOut ps w) := by
  obtain ⟨i0, hi0, hz0, hz1, hz2⟩ := info_row
  have HR := Lib.hid h
  have HZ := Lib.hid hz
  clear h hz
  go_enter Tryd.func17, Tryd.ntmps17
  go_wp2_with (at_make; refine wpList_make_full _ rfl _ _ 22 rfl w.heap.size 36 i0 _ 18 Tryd.underlying22 hi0 hz0 hz1 _ _ _ _ (ps.length + 1) rfl rfl (by omega) (by omega) ?b1 ?b2 ?b3 ?_)
  case b1 => rw [hz2]; omega
  case b2 => simp only [maxLen]; omega
  case b3 => exact Nat.le_refl _
  intro w1 hown hgrow
  obtain ⟨g0, hg0⟩ : ∃ g0, w.heap.size = g0 := ⟨_, rfl⟩
  have HC : Hid (∃ cur, CopyR w w1 g0 ps.length 0 ps [] cur) := by
    rcases hown.2 with ⟨hc, _⟩ | ⟨g, cap, cur, he, hb, hh, hn, hm, hs, ht⟩
    · cases hc
    · injection he with h1 h2 h3
      injection h1 with h1
      injection h1 with h1 _ _
      subst h3
      rw [hg0] at h1
      subst h1
      exact ⟨cur, ⟨hgrow.os, hgrow.tape, hgrow.output, hgrow.size, fun k hk => hgrow.block k hk (by simp)⟩, Nat.le_of_eq hg0, hh, hs, by simp, rfl, (fun q hq => by cases hq), rfl⟩
  rw [hg0]
  clear hown hgrow
  go_wp2_with fail
  go_loopg [4] ps.length (fun gg s4 wr => ∃ (i : Nat) (xs : List RowV), i ≤ ps.length ∧ ps.length - i ≤ gg ∧ s4 = .int .i64 i ∧ Hid (∃ cur, CopyR w wr g0 ps.length i ps xs cur))
  case atStart => exact ⟨0, [], Nat.zero_le _, by omega, rfl, HC.out⟩
  case round =>
    obtain ⟨i, xs, hin, hgg, rfl, HX⟩ := hrel
    obtain ⟨cur, hx⟩ := HX.out
    have HX := Lib.hid hx
    clear hx
    by_cases hlt : i < ps.length
    · have hiz : (i : Int) < (ps.length : Int) := by omega
      have hiz2 : (i : Int) < (ps.length : Int) + 1 := by omega
      have hin2 : i < ps.length + 1 := by omega
      obtain ⟨p, hip⟩ : ∃ p, ps[i]? = some p := ⟨_, List.getElem?_eq_getElem hlt⟩
      have HIP := Lib.hid hip
      have HPZ := Lib.hid (HZ.out p (List.mem_of_getElem? hip))
      obtain ⟨b1, o1, rfl, hcp, hrp⟩ := (HR.out.later HX.out.below).at hip
      obtain ⟨ab, cb, hvb, -⟩ := hrp.blobs
      obtain ⟨ap, cp, hvp, -⟩ := hrp.parts
      have HRP := Lib.hid hrp
      have HC1 : Hid (wr.rangeAt b1 (o1 + i * 18) p.cells) := hcp
      have HONE := Lib.hid hrp.one_mem
      have hb1 : b1 < wr.heap.size := World.block_lt_of_cell? wr _ (hcp 0 _ rfl)
      clear hcp hrp hip
      go_upto_region 6 with (first
        | (refine wpList_load_mid (by rfl) 36 _ (by rfl) b1 (o1 + i * 18) (by rfl) p.cells _ HC1.out Tryd.underlying36 rfl (by rfl) ?_)
        | (refine wpList_store_rowN (by rfl) 36 _ _ (by rfl) wr.heap.size p.cells.toArray (by rfl) (by rfl) 36 rowZC (by exact heap_alloc_new _ _) (by kernel_rfl) (by rfl) (by rw [List.all_toArray]; exact HONE.out) (fun W => RowR wr W wr.heap.size p) (by rw [setRow_alloc _ _ _ _ _ rfl]; exact ⟨heap_alloc_new _ _, below_alloc (Below.refl _ _) (Nat.le_refl _) _, rfl⟩) ?_; rintro W1 hW1))
      have HW1 := Lib.hid hW1
      obtain ⟨g5, hg5⟩ : ∃ g5, wr.heap.size = g5 := ⟨_, rfl⟩
      rw [hg5] at hb1
      rw [hg5] at HW1 ⊢
      clear hW1
      go_upto_region 7 with (refine wpList_store_cellN (by rfl) 29 _ _ (by rfl) g5 10 nilV (by rfl) (by rfl) (by rfl) 36 _ (by exact HW1.out.at_) (by exact Nat.le_of_ble_eq_true rfl) (by kernel_rfl) (fun W => RowR wr W g5 ⟨p.d, nilV, p.vp⟩) (HW1.out.set (by rfl)) ?_; rintro W2 hW2)
      have HW2 := Lib.hid hW2
      have c1 : W2.cell? ⟨g5, 10, none⟩ = some (.slice none 0 0) := cell_at hW2.at_ rfl
      have c2 : W2.cell? ⟨b1, o1 + i * 18 + 10, none⟩ = some p.vb := by rw [World.cell?_of_block (w := wr) (hW2.below.block _ hb1)]; exact HC1.out 10 _ rfl
      have HS2 := Lib.hid (HRP.out.blobs.later (by rw [hg5]; exact hW2.below))
      rw [hvb] at c2
      rw [hvb] at HS2
      clear hW2 HW1 W1
      simp only [Act.put]
      go_cut [31] (fun _ wx => ∃ v4 : Value, Hid (RowR wr wx g5 ⟨p.d, v4, p.vp⟩ ∧ wx.ownsRow (g5 + 1) 3 1 v4 p.d.ver.blobs.length (blobCells p.d.ver.blobs).flatten))
      case first =>
        refine wp_region_heldL_drew (S := (fun W : World => Below W2.heap.size W2 W)) 12 (by kernel_rfl) (Below.refl _ _).drew (fun hS0 => ?_)
        refine wpAnyL_take (i := 0) (oi := { dst := some 22, op := _, type := _, pos := _, after := _, guard := _ }) (v := ?_) rfl (by kernel_rfl) (by kernel_rfl) (by kernel_rfl) (by kernel_rfl) (fun _ _ _ h => h) (Or.inl ⟨by kernel_rfl, ?_⟩) (by assumption) ?_
        rotate_left
        · (intro w hSw; (try dsimp only at hSw); go_simp); all_goals (with_reducible rfl)
        try simp only [Act.put, List.setIfInBounds_toArray, List.set_cons_zero, List.set_cons_succ]
        refine wpAnyL_take (i := 1) (oi := { dst := some 23, op := _, type := _, pos := _, after := _, guard := _ }) (v := ?_) rfl (by kernel_rfl) (by kernel_rfl) (by kernel_rfl) (by kernel_rfl) (fun _ _ _ h => h) (Or.inl ⟨by kernel_rfl, ?_⟩) (by assumption) ?_
        rotate_left
        · (intro w hSw; (try dsimp only at hSw); go_simp); all_goals (with_reducible rfl)
        try simp only [Act.put, List.setIfInBounds_toArray, List.set_cons_zero, List.set_cons_succ]
        refine wpAnyL_take (i := 2) (oi := { dst := some 24, op := _, type := _, pos := _, after := _, guard := _ }) (v := ?_) rfl (by kernel_rfl) (by kernel_rfl) (by kernel_rfl) (by kernel_rfl) (fun _ _ _ h => h) (Or.inl ⟨by kernel_rfl, ?_⟩) (by assumption) ?_
        rotate_left
        · (intro w hSw; (try dsimp only at hSw); have k1 := cell_later hSw c1; have k2 := cell_later hSw c2; go_simp); all_goals (with_reducible rfl)
        try simp only [Act.put, List.setIfInBounds_toArray, List.set_cons_zero, List.set_cons_succ]
        refine wpAnyL_take (i := 3) (oi := { dst := some 25, op := _, type := _, pos := _, after := _, guard := _ }) (v := ?_) rfl (by kernel_rfl) (by kernel_rfl) (by kernel_rfl) (by kernel_rfl) (fun _ _ _ h => h) (Or.inl ⟨by kernel_rfl, ?_⟩) (by assumption) ?_
        rotate_left
        · (intro w hSw; (try dsimp only at hSw); go_simp); all_goals (with_reducible rfl)
        try simp only [Act.put, List.setIfInBounds_toArray, List.set_cons_zero, List.set_cons_succ]
        refine wpAnyL_take (i := 4) (oi := { dst := some 26, op := _, type := _, pos := _, after := _, guard := _ }) (v := ?_) rfl (by kernel_rfl) (by kernel_rfl) (by kernel_rfl) (by kernel_rfl) (fun _ _ _ h => h) (Or.inl ⟨by kernel_rfl, ?_⟩) (by assumption) ?_
        rotate_left
        · (intro w hSw; (try dsimp only at hSw); go_simp); all_goals (with_reducible rfl)
        try simp only [Act.put, List.setIfInBounds_toArray, List.set_cons_zero, List.set_cons_succ]
        refine wpAnyL_take (i := 5) (oi := { dst := some 27, op := _, type := _, pos := _, after := _, guard := _ }) (v := ?_) rfl (by kernel_rfl) (by kernel_rfl) (by kernel_rfl) (by kernel_rfl) (fun _ _ _ h => h) (Or.inl ⟨by kernel_rfl, ?_⟩) (by assumption) ?_
        rotate_left
        · (intro w hSw; (try dsimp only at hSw); go_simp); all_goals (with_reducible rfl)
        try simp only [Act.put, List.setIfInBounds_toArray, List.set_cons_zero, List.set_cons_succ]
        refine wpAnyL_take (i := 6) (oi := { dst := some 28, op := _, type := _, pos := _, after := _, guard := _ }) (v := ?_) rfl (by kernel_rfl) (by kernel_rfl) (by kernel_rfl) (by kernel_rfl) (fun _ _ _ h => h) (Or.inl ⟨by kernel_rfl, ?_⟩) (by assumption) ?_
        rotate_left
        · (intro w hSw; (try dsimp only at hSw); go_simp); all_goals (with_reducible rfl)
        try simp only [Act.put, List.setIfInBounds_toArray, List.set_cons_zero, List.set_cons_succ]
        refine wpAnyL_take (i := 7) (oi := { dst := some 29, op := _, type := _, pos := _, after := _, guard := _ }) (v := ?_) rfl (by kernel_rfl) (by kernel_rfl) (by kernel_rfl) (by kernel_rfl) (fun _ _ _ h => h) (Or.inl ⟨by kernel_rfl, ?_⟩) (by assumption) ?_
        rotate_left
        · (intro w hSw; (try dsimp only at hSw); go_simp); all_goals (with_reducible rfl)
        try simp only [Act.put, List.setIfInBounds_toArray, List.set_cons_zero, List.set_cons_succ]
        refine wpAnyL_take (i := 8) (oi := { dst := some 30, op := _, type := _, pos := _, after := _, guard := _ }) (v := ?_) rfl (by kernel_rfl) (by kernel_rfl) (by kernel_rfl) (by kernel_rfl) (fun _ _ _ h => h) (Or.inl ⟨by kernel_rfl, ?_⟩) (by assumption) ?_
        rotate_left
        · (intro w hSw; (try dsimp only at hSw); have k1 := cell_later hSw c1; have k2 := cell_later hSw c2; go_simp); all_goals (with_reducible rfl)
        try simp only [Act.put, List.setIfInBounds_toArray, List.set_cons_zero, List.set_cons_succ]
        refine wpAnyL_ready (rs := [9]) (by kernel_rfl) (by simp) ?_
        refine (AllReadyL.cons (o := { dst := some 31, op := _, type := _, pos := _, after := _, guard := _ }) rfl (fun K hK => ?_) AllReadyL.nil)
        rw [if_pos (by kernel_rfl)]
        refine wp_append_sl _ _ 29 (by rfl) 3 Tryd.underlying29 info_int (by rfl) (by decide) (by rfl) (by rfl) (HS2.out.later hS0) (blob_rows _) (blob_one _) (blobs_maxLen HPZ.out.1).1 (blobs_maxLen HPZ.out.1).2 ?_
        intro v w4 hv b4
        rw [show (blobCells p.d.ver.blobs).length = p.d.ver.blobs.length by simp [blobCells]] at hv
        obtain ⟨va, vc, rfl⟩ := own_form hv
        have HF := Lib.hid ((HW2.out.later (hS0.trans (b4.mono hS0.size))))
        have HV := Lib.hid (own_base hv (Nat.le_trans (Nat.succ_le_of_lt HW2.out.lt) hS0.size))
        clear hv
        refine hK.out _ _ (hS0.trans (b4.mono hS0.size)) (fun hSe => ?_)
        clear hK K
        try simp only [Act.put, List.setIfInBounds_toArray, List.set_cons_zero, List.set_cons_succ]
        refine wpAnyL_ready (rs := [10]) (by kernel_rfl) (by simp) ?_
        refine (AllReadyL.cons (o := { dst := some 32, op := _, type := _, pos := _, after := _, guard := _ }) rfl (fun K hK => ?_) AllReadyL.nil)
        rw [if_pos (by kernel_rfl)]
        go_wp2_with fail
        refine hK.out _ _ (by assumption) (fun _ => ?_)
        clear hK K
        try simp only [Act.put, List.setIfInBounds_toArray, List.set_cons_zero, List.set_cons_succ]
        refine wpAnyL_take (i := 11) (oi := { dst := some 33, op := _, type := _, pos := _, after := _, guard := _ }) (v := ?_) rfl (by kernel_rfl) (by kernel_rfl) (by kernel_rfl) (by kernel_rfl) (fun _ _ _ h => h) (Or.inl ⟨by kernel_rfl, ?_⟩) (by assumption) ?_
        rotate_left
        · (intro w hSw; (try dsimp only at hSw); go_simp); all_goals (with_reducible rfl)
        try simp only [Act.put, List.setIfInBounds_toArray, List.set_cons_zero, List.set_cons_succ]
        refine wpAnyL_ready (rs := [12]) (by kernel_rfl) (by simp) ?_
        refine (AllReadyL.final (o := { dst := none, op := _, type := _, pos := _, after := _, guard := _ }) rfl (fun K hK => ?_))
        rw [if_pos (by kernel_rfl)]
        refine wp_store_cellN 29 _ _ (by rfl) g5 10 (.slice va p.d.ver.blobs.length vc) (by rfl) (by rfl) (by rfl) 36 _ (by exact HF.out.at_) (by exact Nat.le_of_ble_eq_true rfl) (by kernel_rfl) (fun W => RowR wr W g5 ⟨p.d, .slice va p.d.ver.blobs.length vc, p.vp⟩ ∧ W.ownsRow (g5 + 1) 3 1 (.slice va p.d.ver.blobs.length vc) p.d.ver.blobs.length (blobCells p.d.ver.blobs).flatten) ⟨HF.out.set (by rfl), own_set HV.out _ (Nat.lt_succ_self _)⟩ ?_
        intro W5 h5
        refine hK.out _ _ ?_
        clear hK K
        try simp only [Act.put]
        refine wpAnyL_done (by kernel_rfl) ?_ _
        go_wp2_with fail
        go_meet
        case rel => exact ⟨_, h5⟩
      case rest =>
        obtain ⟨v4, HW3⟩ := hcut
        go_upto_region 9 with (refine wpList_store_cellN (by rfl) 32 _ _ (by rfl) g5 17 nilV (by rfl) (by rfl) (by rfl) 36 _ (by exact HW3.out.1.at_) (by exact Nat.le_of_ble_eq_true rfl) (by kernel_rfl) (fun W => RowR wr W g5 ⟨p.d, v4, nilV⟩ ∧ W.ownsRow (g5 + 1) 3 1 v4 p.d.ver.blobs.length (blobCells p.d.ver.blobs).flatten) ⟨HW3.out.1.set (by rfl), own_set HW3.out.2 _ (Nat.lt_succ_self _)⟩ ?_; rintro W4 hW4)
        have HW4 := Lib.hid hW4
        have c1 : W4.cell? ⟨g5, 17, none⟩ = some (.slice none 0 0) := cell_at hW4.1.at_ rfl
        have c2 : W4.cell? ⟨b1, o1 + i * 18 + 17, none⟩ = some p.vp := by rw [World.cell?_of_block (w := wr) (hW4.1.below.block _ hb1)]; exact HC1.out 17 _ rfl
        have HS4 := Lib.hid (HRP.out.parts.later (by rw [hg5]; exact hW4.1.below))
        rw [hvp] at c2
        rw [hvp] at HS4
        clear hW4 HW3
        simp only [Act.put]
        go_cut [45] (fun _ wx => ∃ v5 : Value, Hid (RowR wr wx g5 ⟨p.d, v4, v5⟩ ∧ RowOwn wx (g5 + 1) ⟨p.d, v4, v5⟩))
        case first =>
          refine wp_region_heldL_drew (S := (fun W : World => Below W4.heap.size W4 W)) 12 (by kernel_rfl) (Below.refl _ _).drew (fun hS0 => ?_)
          refine wpAnyL_take (i := 0) (oi := { dst := some 36, op := _, type := _, pos := _, after := _, guard := _ }) (v := ?_) rfl (by kernel_rfl) (by kernel_rfl) (by kernel_rfl) (by kernel_rfl) (fun _ _ _ h => h) (Or.inl ⟨by kernel_rfl, ?_⟩) (by assumption) ?_
          rotate_left
          · (intro w hSw; (try dsimp only at hSw); go_simp); all_goals (with_reducible rfl)
          try simp only [Act.put, List.setIfInBounds_toArray, List.set_cons_zero, List.set_cons_succ]
          refine wpAnyL_take (i := 1) (oi := { dst := some 37, op := _, type := _, pos := _, after := _, guard := _ }) (v := ?_) rfl (by kernel_rfl) (by kernel_rfl) (by kernel_rfl) (by kernel_rfl) (fun _ _ _ h => h) (Or.inl ⟨by kernel_rfl, ?_⟩) (by assumption) ?_
          rotate_left
          · (intro w hSw; (try dsimp only at hSw); go_simp); all_goals (with_reducible rfl)
          try simp only [Act.put, List.setIfInBounds_toArray, List.set_cons_zero, List.set_cons_succ]
          refine wpAnyL_take (i := 2) (oi := { dst := some 38, op := _, type := _, pos := _, after := _, guard := _ }) (v := ?_) rfl (by kernel_rfl) (by kernel_rfl) (by kernel_rfl) (by kernel_rfl) (fun _ _ _ h => h) (Or.inl ⟨by kernel_rfl, ?_⟩) (by assumption) ?_
          rotate_left
          · (intro w hSw; (try dsimp only at hSw); have k1 := cell_later hSw c1; have k2 := cell_later hSw c2; go_simp); all_goals (with_reducible rfl)
          try simp only [Act.put, List.setIfInBounds_toArray, List.set_cons_zero, List.set_cons_succ]
          refine wpAnyL_take (i := 3) (oi := { dst := some 39, op := _, type := _, pos := _, after := _, guard := _ }) (v := ?_) rfl (by kernel_rfl) (by kernel_rfl) (by kernel_rfl) (by kernel_rfl) (fun _ _ _ h => h) (Or.inl ⟨by kernel_rfl, ?_⟩) (by assumption) ?_
          rotate_left
          · (intro w hSw; (try dsimp only at hSw); go_simp); all_goals (with_reducible rfl)
          try simp only [Act.put, List.setIfInBounds_toArray, List.set_cons_zero, List.set_cons_succ]
          refine wpAnyL_take (i := 4) (oi := { dst := some 40, op := _, type := _, pos := _, after := _, guard := _ }) (v := ?_) rfl (by kernel_rfl) (by kernel_rfl) (by kernel_rfl) (by kernel_rfl) (fun _ _ _ h => h) (Or.inl ⟨by kernel_rfl, ?_⟩) (by assumption) ?_
          rotate_left
          · (intro w hSw; (try dsimp only at hSw); go_simp); all_goals (with_reducible rfl)
          try simp only [Act.put, List.setIfInBounds_toArray, List.set_cons_zero, List.set_cons_succ]
          refine wpAnyL_take (i := 5) (oi := { dst := some 41, op := _, type := _, pos := _, after := _, guard := _ }) (v := ?_) rfl (by kernel_rfl) (by kernel_rfl) (by kernel_rfl) (by kernel_rfl) (fun _ _ _ h => h) (Or.inl ⟨by kernel_rfl, ?_⟩) (by assumption) ?_
          rotate_left
          · (intro w hSw; (try dsimp only at hSw); go_simp); all_goals (with_reducible rfl)
          try simp only [Act.put, List.setIfInBounds_toArray, List.set_cons_zero, List.set_cons_succ]
          refine wpAnyL_take (i := 6) (oi := { dst := some 42, op := _, type := _, pos := _, after := _, guard := _ }) (v := ?_) rfl (by kernel_rfl) (by kernel_rfl) (by kernel_rfl) (by kernel_rfl) (fun _ _ _ h => h) (Or.inl ⟨by kernel_rfl, ?_⟩) (by assumption) ?_
          rotate_left
          · (intro w hSw; (try dsimp only at hSw); go_simp); all_goals (with_reducible rfl)
          try simp only [Act.put, List.setIfInBounds_toArray, List.set_cons_zero, List.set_cons_succ]
          refine wpAnyL_take (i := 7) (oi := { dst := some 43, op := _, type := _, pos := _, after := _, guard := _ }) (v := ?_) rfl (by kernel_rfl) (by kernel_rfl) (by kernel_rfl) (by kernel_rfl) (fun _ _ _ h => h) (Or.inl ⟨by kernel_rfl, ?_⟩) (by assumption) ?_
          rotate_left
          · (intro w hSw; (try dsimp only at hSw); go_simp); all_goals (with_reducible rfl)
          try simp only [Act.put, List.setIfInBounds_toArray, List.set_cons_zero, List.set_cons_succ]
          refine wpAnyL_take (i := 8) (oi := { dst := some 44, op := _, type := _, pos := _, after := _, guard := _ }) (v := ?_) rfl (by kernel_rfl) (by kernel_rfl) (by kernel_rfl) (by kernel_rfl) (fun _ _ _ h => h) (Or.inl ⟨by kernel_rfl, ?_⟩) (by assumption) ?_
          rotate_left
          · (intro w hSw; (try dsimp only at hSw); have k1 := cell_later hSw c1; have k2 := cell_later hSw c2; go_simp); all_goals (with_reducible rfl)
          try simp only [Act.put, List.setIfInBounds_toArray, List.set_cons_zero, List.set_cons_succ]
          refine wpAnyL_ready (rs := [9]) (by kernel_rfl) (by simp) ?_
          refine (AllReadyL.cons (o := { dst := some 45, op := _, type := _, pos := _, after := _, guard := _ }) rfl (fun K hK => ?_) AllReadyL.nil)
          rw [if_pos (by kernel_rfl)]
          refine wp_append_sl _ _ 32 (by rfl) 68 Tryd.underlying32 info_part (by rfl) (by decide) (by rfl) (by rfl) (HS4.out.later hS0) (part_rows _) (part_one _) (parts_maxLen HPZ.out.2).1 (parts_maxLen HPZ.out.2).2 ?_
          intro v w4 hv b4
          rw [show (partCells p.d.upl.parts).length = p.d.upl.parts.length by simp [partCells]] at hv
          obtain ⟨va, vc, rfl⟩ := own_form hv
          have HF := Lib.hid ((HW4.out.1.later (hS0.trans (b4.mono hS0.size))))
          have HV := Lib.hid (own_base hv (Nat.le_trans (Nat.succ_le_of_lt HW4.out.1.lt) hS0.size))
          clear hv
          refine hK.out _ _ (hS0.trans (b4.mono hS0.size)) (fun hSe => ?_)
          clear hK K
          try simp only [Act.put, List.setIfInBounds_toArray, List.set_cons_zero, List.set_cons_succ]
          refine wpAnyL_ready (rs := [10]) (by kernel_rfl) (by simp) ?_
          refine (AllReadyL.cons (o := { dst := some 46, op := _, type := _, pos := _, after := _, guard := _ }) rfl (fun K hK => ?_) AllReadyL.nil)
          rw [if_pos (by kernel_rfl)]
          go_wp2_with fail
          refine hK.out _ _ (by assumption) (fun _ => ?_)
          clear hK K
          try simp only [Act.put, List.setIfInBounds_toArray, List.set_cons_zero, List.set_cons_succ]
          refine wpAnyL_take (i := 11) (oi := { dst := some 47, op := _, type := _, pos := _, after := _, guard := _ }) (v := ?_) rfl (by kernel_rfl) (by kernel_rfl) (by kernel_rfl) (by kernel_rfl) (fun _ _ _ h => h) (Or.inl ⟨by kernel_rfl, ?_⟩) (by assumption) ?_
          rotate_left
          · (intro w hSw; (try dsimp only at hSw); go_simp); all_goals (with_reducible rfl)
          try simp only [Act.put, List.setIfInBounds_toArray, List.set_cons_zero, List.set_cons_succ]
          refine wpAnyL_ready (rs := [12]) (by kernel_rfl) (by simp) ?_
          refine (AllReadyL.final (o := { dst := none, op := _, type := _, pos := _, after := _, guard := _ }) rfl (fun K hK => ?_))
          rw [if_pos (by kernel_rfl)]
          refine wp_store_cellN 32 _ _ (by rfl) g5 17 (.slice va p.d.upl.parts.length vc) (by rfl) (by rfl) (by rfl) 36 _ (by exact HF.out.at_) (by exact Nat.le_of_ble_eq_true rfl) (by kernel_rfl) (fun W => RowR wr W g5 ⟨p.d, v4, .slice va p.d.upl.parts.length vc⟩ ∧ RowOwn W (g5 + 1) ⟨p.d, v4, .slice va p.d.upl.parts.length vc⟩) ⟨HF.out.set (by rfl), own_set (own_later HW4.out.2 (hS0.trans (b4.mono hS0.size))) _ (Nat.lt_succ_self _), own_set HV.out _ (Nat.lt_succ_self _)⟩ ?_
          intro W5 h5
          refine hK.out _ _ ?_
          clear hK K
          try simp only [Act.put]
          refine wpAnyL_done (by kernel_rfl) ?_ _
          go_wp2_with fail
          go_meet
          case rel => exact ⟨_, h5⟩
        case rest =>
          obtain ⟨v5, HW5⟩ := hcut
          have HX5 := Lib.hid (HX.out.later (by rw [hg5]; exact HW5.out.1.below))
          have HO5 : Hid (RowOwn wc (g0 + 1) ⟨p.d, v4, v5⟩) := HW5.out.2.base (by have := (Array.getElem?_eq_some_iff.1 HX.out.at_).1; omega)
          have hsz : i * 18 + 18 ≤ cur.size := by rw [HX.out.size]; omega
          have HONE5 : Hid ((RowV.mk p.d v4 v5).cells.all (·.oneCell') = true) := by
            obtain ⟨a, c, h1⟩ := own_form HO5.out.blobs
            obtain ⟨a', c', h2⟩ := own_form HO5.out.parts
            simp only at h1 h2
            subst h1 h2
            rfl
          clear HX HC1 HS2 HS4 c1 c2
          go_wp2_with (first
            | (refine wpList_load_row (by rfl) 36 _ (by rfl) g5 (by rfl) 36 (RowV.mk p.d v4 v5).cells.toArray (0, 0) _ (by exact HW5.out.1.at_) Tryd.underlying36 rfl (by kernel_rfl) ?_)
            | (refine wpList_store_partN (by rfl) 36 _ _ (by rfl) g0 (i * 18) (RowV.mk p.d v4 v5).cells (by rfl) (by rfl) 36 cur (by exact HX5.out.at_) (by exact hsz) (by kernel_rfl) (by exact HONE5.out) (fun W => ∃ cur, CopyR w W g0 ps.length (i + 1) ps (xs ++ [RowV.mk p.d v4 v5]) cur) (by exact ⟨_, HX5.out.put hlt HIP.out rfl HO5.out⟩) ?_; clear HX5 HO5 HW5; rintro W6 hW6))
          have HW6 := Lib.hid hW6
          go_roundg (ps.length - (i + 1))
          case measure => omega
          case rel => exact ⟨i + 1, _, by omega, Nat.le_refl _, vnext, HW6.out⟩
    · obtain rfl : i = ps.length := by omega
      have hsz : ps.length * 18 + 18 ≤ cur.size := by rw [HX.out.size]; omega
      have hlz : (ps.length : Int) < (ps.length : Int) + 1 := by omega
      have HM := Lib.hid (HX.out.mark rfl (by simp only [maxLen]; omega))
      go_wp2_with (refine wpList_store_partN (by rfl) 36 _ _ (by rfl) g0 (ps.length * 18) markV.cells (by rfl) (by rfl) 36 cur (by exact HX.out.at_) (by exact hsz) (by kernel_rfl) (by kernel_rfl) (fun W => RowsOwn W w.heap.size (.slice (some ⟨g0, 0, none⟩) (ps.length + 1) (ps.length + 1)) (xs ++ [markV]) ∧ xs.map RowV.d = ps.map RowV.d ∧ Below w.heap.size w W) (by exact HM.out) ?_; clear HM HX; rintro W6 hW6)
      have HW6 := Lib.hid hW6
      go_wp2_with fail
      go_ret
      exact ⟨g0, xs, rfl, HW6.out⟩
end Go.Proofs.YtgklbmcnpnmkkaaDoor
