/-
  SEVERAL SMALL TEXTS IN ONE.
-/
import Derived.Test.YtgmgghbocidibaaGreatDoorXmBackL
import Derived.Test.YtgmgghbocidibaaGreatDoorSm0
import Derived.ChangeSame
import Derived.Deep.Slices
/-
  law XmlTexts: a text that is written is read as it was, or is told to be wrong or too long.
-/
namespace Go.Proofs.YtgmgghbocidibaaGreatDoor
open Go.RowKit Go.Lib Go.PlainAid

def txT (s : Bs) : Tree := .node ⟨#[116]⟩ ⟨s.toArray⟩ []
theorem txT_in {s : Bs} (hs : s.length ≤ 4000000) (w : World) : ElemIn w (txT s) none 0 := by
  show TreeIn _ _ _ _ _
  unfold txT TreeIn
  refine ⟨rfl, rfl, by decide, ?_, by decide, none, 0, rfl, by unfold KidsIn; trivial⟩
  show s.toArray.size ≤ _
  unfold maxRead
  simp only [List.size_toArray]
  omega
theorem txT_sm {s : Bs} (hs : s.length ≤ 4000000) : SmT (txT s) := by
  unfold txT SmT
  exact ⟨by decide, hs, by unfold SmKs; trivial⟩

set_option maxHeartbeats 8000000 in
set_option maxRecDepth 100000 in
theorem texts_law {w : World} (hG : GlobX w) (s : Bs) (hs : s.length ≤ 4000000) :
    Calls Tryz.prog 4 #[.string ⟨s.toArray⟩] w fun e w' => e = .returned (.bool true) ∧ Below w.heap.size w w' := by
  have HG := Lib.hid hG
  have HLS := Lib.hid hs
  have HEX := Lib.hid (ex_walk hG)
  clear hG hs
  go_enter Tryz.func4, Tryz.ntmps4
  go_wp2_with fail
  refine HEX.out.mono ?_
  rintro e W1 ⟨rfl, hb1⟩
  have B1 := Lib.hid hb1
  clear hb1 HEX
  go_upto_region 3 with (refine wpList_store_rowN (by rfl) 24 _ _ (by rfl) W1.heap.size (elC (txT s) none 0) (by rfl) (by rfl) 24 elemZC (by exact heap_alloc_new _ _) (by kernel_rfl) (by rfl) (by kernel_rfl) (fun W => W.heap[W1.heap.size]? = some (.cells (elC (txT s) none 0) 24 (0, 0)) ∧ Below W1.heap.size W1 W) (elem_box rfl rfl) ?_; rintro W2 h2)
  have B2 := Lib.hid (B1.out.trans (h2.2.mono B1.out.size))
  have Y2 := Lib.hid h2.1
  have HW := Lib.hid (write_prog (txT s) none 0 W2 (txT_in HLS.out W2) (HG.out.later B2.out).c (fun _ => txT_sm HLS.out))
  clear h2 B1
  generalize W1.heap.size = g1 at *
  go_wp2_with (refine wpList_load_row (by rfl) 24 _ (by rfl) g1 (by rfl) 24 (elC (txT s) none 0) (0, 0) _ (by exact Y2.out) Tryz.underlying24 rfl (by kernel_rfl) ?_)
  refine HW.out.mono ?_
  rintro e W3 ⟨rfl, hb3⟩
  have B3 := Lib.hid (B2.out.trans (hb3.mono B2.out.size))
  clear hb3 B2 Y2 HW
  cases hok : okT (txT s) with
  | false =>
    rw [wOut_no hok]
    clear hok
    go_wp2_with fail
    go_ret
    exact ⟨rfl, B3.out⟩
  | true =>
    by_cases hlong : 1000000 < (headC ++ writeL (txT s)).length
    · rw [wOut_long hok hlong]
      clear hok hlong
      go_wp2_with fail
      go_ret
      exact ⟨rfl, B3.out⟩
    · rw [wOut_yes hok (Nat.le_of_not_lt hlong)]
      have HBK := Lib.hid (fun h => back_ok (t := txT s) hok h)
      have hle := Nat.le_of_not_lt hlong
      clear hok hlong
      obtain ⟨l2, hl2⟩ : ∃ l2, headC ++ writeL (txT s) = l2 := ⟨_, rfl⟩
      rw [hl2] at hle HBK ⊢
      clear hl2
      by_cases h8 : 8000 < l2.length
      · have h8z : (8000 : Int) < (l2.length : Int) := by omega
        go_wp2_with fail
        go_ret
        exact ⟨rfl, B3.out⟩
      · have h8z : ¬ (8000 : Int) < (l2.length : Int) := by omega
        have HP := Lib.hid (parse_at (HG.out.later B3.out) (HBK.out (by omega)) (by omega))
        go_wp2_with fail
        refine HP.out.mono ?_
        rintro e W4 ⟨hb4, z, rfl, ho⟩
        obtain ⟨a4, c4, rfl, -⟩ := ho.form
        have B4 := Lib.hid (B3.out.trans (hb4.mono B3.out.size))
        clear hb4 ho HP B3
        go_upto_region 9 with (refine wpList_store_rowN (by rfl) 24 _ _ (by rfl) W4.heap.size (elC (txT s) a4 c4) (by rfl) (by rfl) 24 elemZC (by exact heap_alloc_new _ _) (by kernel_rfl) (by rfl) (by kernel_rfl) (fun W => W.heap[W4.heap.size]? = some (.cells (elC (txT s) a4 c4) 24 (0, 0)) ∧ Below W4.heap.size W4 W) (elem_box rfl rfl) ?_; rintro W5 h5)
        have B5 := Lib.hid (B4.out.trans (h5.2.mono B4.out.size))
        have q1 : W5.cell? ⟨W4.heap.size, 1, none⟩ = some (.string ⟨s.toArray⟩) := cell_at h5.1 rfl
        have q2 : W5.cell? ⟨W4.heap.size, 2, none⟩ = some (.slice a4 0 c4) := cell_at h5.1 rfl
        clear h5 B4
        generalize W4.heap.size = g4 at *
        go_wp2_with fail
        go_ret
        exact ⟨rfl, B5.out⟩
end Go.Proofs.YtgmgghbocidibaaGreatDoor

/-
  WHAT WAS READ AS DATA IS READ SO AGAIN, where nothing that was there has turned.
-/
namespace Go.Proofs.YtgmgghbocidibaaGreatDoor
open Go.RowKit

theorem mapM_congr {α β : Type} {f g : α → Option β} : ∀ (l : List α) (r : List β), l.mapM f = some r → (∀ x ∈ l, ∀ y, f x = some y → y ∈ r → g x = some y) → l.mapM g = some r
  | [], r, h, _ => by simpa using h
  | a :: l, r, h, hg => by
    simp only [List.mapM_cons, Option.bind_eq_bind, Option.bind_eq_some_iff, Option.pure_def, Option.some.injEq] at h ⊢
    obtain ⟨b, hb, s, hs, rfl⟩ := h
    exact ⟨b, hg a List.mem_cons_self b hb List.mem_cons_self, s, mapM_congr l s hs (fun x hx y hy hm => hg x (List.mem_cons_of_mem _ hx) y hy (List.mem_cons_of_mem _ hm)), rfl⟩

theorem cells?_later {w w' : World} (hb : Below w.heap.size w w') {a : Addr} {n : Nat} {cs : List Value} (h : w.cells? 0 a n = some cs) : w'.cells? 0 a n = some cs := by
  unfold World.cells? at *
  simp only [Nat.zero_le, if_true] at *
  refine mapM_congr _ _ h (fun i _ y hy _ => ?_)
  have := World.block_lt_of_cell? w _ hy
  rw [hb.cell this]; exact hy

section
variable {H : Type} {enc : TypeId × Value → H} {P : Program} {w w' : World} {held : Bool}
theorem trod_later (hb : Below w.heap.size w w') (hz : ∀ t e, P.underlying t = some (.slice e) → 0 < P.cellsOf e) : ∀ (fuel : Nat) (t : TypeId) (cs : List Value) (x : DataW H × List MemPlace),
    DataW.trod enc P w 0 (fun _ => true) held fuel t cs = some x → ∀ sp : Nat → Bool, (∀ p ∈ x.2, sp p.block = true) → DataW.trod enc P w' 0 sp held fuel t cs = some x
  | 0, _, _, _, h, _, _ => by simp [DataW.trod] at h
  | fuel + 1, t, cs, x, h, sp, hsp => by
    have ih := trod_later hb hz fuel
    unfold DataW.trod at h ⊢
    split at h
    all_goals first | (simp_all; done) | skip
    case h_6 =>
      simp only [Option.map_eq_some_iff, Option.bind_eq_some_iff] at h ⊢
      obtain ⟨y, ⟨cs', h1, h2⟩, rfl⟩ := h
      exact ⟨y, ⟨cs', cells?_later hb h1, ih _ _ _ h2 sp (fun p hp => hsp p (List.mem_append_right _ hp))⟩, rfl⟩
    case h_8 t' cs' e a len cap hu =>
      dsimp only at h ⊢
      split at h
      · rename_i c
        rw [if_pos c]
        simp only [if_true] at h
        obtain ⟨elems, he, h⟩ := Option.bind_eq_some_iff.1 h
        obtain ⟨rest, hr, rfl⟩ := Option.map_eq_some_iff.1 h
        have hone : ∀ i y, ((w.cells? 0 (a.add (i * P.cellsOf e)) (P.cellsOf e)).bind (DataW.trod enc P w 0 (fun _ => true) held fuel e)) = some y → y ∈ elems ++ rest → ((w'.cells? 0 (a.add (i * P.cellsOf e)) (P.cellsOf e)).bind (DataW.trod enc P w' 0 sp held fuel e)) = some y := fun i y hy hm => by
          obtain ⟨c1, h1, h2⟩ := Option.bind_eq_some_iff.1 hy
          exact Option.bind_eq_some_iff.2 ⟨c1, cells?_later hb h1, ih _ _ _ h2 sp (fun p hp => hsp p (List.mem_append_right _ (List.mem_flatMap.2 ⟨y, hm, hp⟩)))⟩
        refine Option.bind_eq_some_iff.2 ⟨elems, mapM_congr _ _ he (fun i _ y hy hm => hone i y hy (List.mem_append_left _ hm)), ?_⟩
        by_cases hs : sp a.block = true
        · rw [if_pos hs]
          exact Option.map_eq_some_iff.2 ⟨rest, mapM_congr _ _ hr (fun i _ y hy hm => hone (len + i) y hy (List.mem_append_right _ hm)), rfl⟩
        · rw [if_neg hs]
          have h0 : rest = [] := by
            cases rest with
            | nil => rfl
            | cons r0 rs =>
              refine absurd (hsp (.cell a.block a.off) (List.mem_append_left _ ?_)) hs
              have hp := hz _ _ hu
              have hn : 0 < (elems.length + (r0 :: rs).length) * P.cellsOf e := Nat.mul_pos (by simp; omega) hp
              unfold MemPlace.row
              exact List.mem_map.2 ⟨0, List.mem_range.2 hn, by simp⟩
          subst h0
          rfl
      · cases h
    case h_9 =>
      split at h
      · rename_i c
        rw [if_pos c]
        obtain ⟨xs, hxs, rfl⟩ := Option.map_eq_some_iff.1 h
        exact Option.map_eq_some_iff.2 ⟨xs, mapM_congr _ _ hxs (fun f _ y hy hm => ih _ _ _ hy sp (fun p hp => hsp p (List.mem_flatMap.2 ⟨y, hm, hp⟩))), rfl⟩
      · cases h
    case h_10 =>
      split at h
      · rename_i c
        rw [if_pos c]
        obtain ⟨xs, hxs, rfl⟩ := Option.map_eq_some_iff.1 h
        exact Option.map_eq_some_iff.2 ⟨xs, mapM_congr _ _ hxs (fun f _ y hy hm => ih _ _ _ hy sp (fun p hp => hsp p (List.mem_flatMap.2 ⟨y, hm, hp⟩))), rfl⟩
      · cases h
    case h_12 =>
      split at h
      · exact h
      · obtain ⟨y, hy, rfl⟩ := Option.map_eq_some_iff.1 h
        exact Option.map_eq_some_iff.2 ⟨y, ih _ _ _ hy sp hsp, rfl⟩
      · cases h
    case h_14 =>
      split at h
      · rename_i b es clock hm
        have hlt : _ < w.heap.size := (Array.getElem?_eq_some_iff.1 hm).1
        rw [hb.block _ hlt, hm]
        dsimp only
        split at h
        · rename_i c
          rw [if_pos c]
          obtain ⟨entries, he, h⟩ := Option.bind_eq_some_iff.1 h
          dsimp only at h
          split at h
          · rename_i c2
            cases h
            refine Option.bind_eq_some_iff.2 ⟨entries, mapM_congr _ _ he (fun x _ y hy hm => ?_), by rw [if_pos c2]⟩
            obtain ⟨key, hk, hy⟩ := Option.bind_eq_some_iff.1 hy
            refine Option.bind_eq_some_iff.2 ⟨key, hk, ?_⟩
            split at hy
            · rename_i c3
              rw [if_pos c3]
              obtain ⟨z, hz', rfl⟩ := Option.map_eq_some_iff.1 hy
              exact Option.map_eq_some_iff.2 ⟨z, ih _ _ _ hz' sp (fun p hp => hsp p (List.mem_cons_of_mem _ (List.mem_flatMap.2 ⟨_, hm, hp⟩))), rfl⟩
            · cases hy
          · cases h
        · cases h
      · cases h

theorem trodAll_later (hb : Below w.heap.size w w') (hz : ∀ t e, P.underlying t = some (.slice e) → 0 < P.cellsOf e) : ∀ (ts : List TypeId) (vs : List Value) (ds : List (DataW H)) (ps : List MemPlace),
    DataW.TrodAll enc P w 0 (fun _ => true) held ts vs ds ps → ∀ sp : Nat → Bool, (∀ p ∈ ps, sp p.block = true) → DataW.TrodAll enc P w' 0 sp held ts vs ds ps
  | [], [], [], _, h, _, _ => h
  | t :: ts, v :: vs, d :: ds, ps, ⟨p, q, ⟨f, h1⟩, h2, h3⟩, sp, hsp => by
    subst h3
    exact ⟨p, q, ⟨f, trod_later hb hz f _ _ _ h1 sp (fun x hx => hsp x (List.mem_append_left _ hx))⟩, trodAll_later hb hz ts vs ds q h2 sp (fun x hx => hsp x (List.mem_append_right _ hx)), rfl⟩
end
end Go.Proofs.YtgmgghbocidibaaGreatDoor
