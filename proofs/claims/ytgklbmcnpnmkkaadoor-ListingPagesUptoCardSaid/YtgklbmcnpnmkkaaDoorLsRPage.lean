/-
  storehouseref20.SamePage at pages that say the same. (Printed by wip/gen/lsrpage.py.)
-/
import Derived.Test.YtgklbmcnpnmkkaaDoorSm20
import Derived.Test.YtgklbmcnpnmkkaaDoorSm3
import Derived.Deep.RegionHeld
namespace Go.Proofs.YtgklbmcnpnmkkaaDoor
open Go.RowKit Go.Lib

set_option maxHeartbeats 4000000 in
set_option maxRecDepth 100000 in
theorem rSamePage_any {ps qs : List RowV} {a a' : Option Addr} {c c' : Nat} (mo : Bool) (nx : List UInt8) (en : Int) (w : World) (hd : ps.map RowV.d = qs.map RowV.d) (h : RowsIn w (.slice a ps.length c) ps) (h' : RowsIn w (.slice a' qs.length c') qs) (hl : ps.length ≤ 1000) :
    Calls Tryd.prog 19 #[.agg #[.slice a ps.length c, .bool mo, .string ⟨nx.toArray⟩, .int .i64 en], .agg #[.slice a' qs.length c', .bool mo, .string ⟨nx.toArray⟩, .int .i64 en]] w fun e w' => e = .returned (.bool true) ∧ Below w.heap.size w w' := by
  have hlen : qs.length = ps.length := by have := congrArg List.length hd; simpa using this.symm
  have HD : Hid (∀ (i : Nat) (p q : RowV), ps[i]? = some p → qs[i]? = some q → p.d = q.d) := fun i p q hp hq => by
    have := congrArg (fun l => l[i]?) hd
    simp only [List.getElem?_map, hp, hq, Option.map_some] at this
    exact Option.some.inj this
  have HP := Lib.hid h
  have HQ := Lib.hid h'
  have HLEN := Lib.hid hlen
  rw [hlen]
  clear hd h h' hlen
  go_enter Tryd.func19, Tryd.ntmps19
  obtain ⟨W1, hW1⟩ : ∃ W1, W1 = (w.alloc (.cells #[.slice a ps.length c, .bool mo, .string ⟨nx.toArray⟩, .int .i64 en] 26)).alloc (.cells #[.slice a' ps.length c', .bool mo, .string ⟨nx.toArray⟩, .int .i64 en] 26) := ⟨_, rfl⟩
  have B1 : Hid (Below w.heap.size w W1) := by show Below _ _ _; rw [hW1]; exact below_alloc (below_alloc (Below.refl _ _) (Nat.le_refl _) _) (Nat.le_refl _) _
  have X1 : Hid (W1.cell? ⟨w.heap.size, 0, none⟩ = some (.slice a ps.length c)) := by show _ = _; rw [hW1]; exact cell_past _ (cell_new _ _ _ _ _ _ rfl rfl)
  have X2 : Hid (W1.cell? ⟨w.heap.size + 1, 0, none⟩ = some (.slice a' ps.length c')) := by show _ = _; rw [hW1]; exact cell_new _ _ _ _ _ _ (by simp) rfl
  go_wp2_with fail
  go_loopg [5] ps.length (fun gg s5 wr => ∃ i : Nat, i ≤ ps.length ∧ ps.length - i ≤ gg ∧ s5 = .int .i64 i ∧ Hid (Below W1.heap.size W1 wr))
  case atStart => exact ⟨0, Nat.zero_le _, by omega, rfl, by show Below _ _ _; rw [hW1]; exact Below.refl _ _⟩
  case round =>
    obtain ⟨i, hin, hgg, rfl, HB⟩ := hrel
    clear hW1
    have k0 := cell_later HB.out X1.out
    have m0 := cell_later HB.out X2.out
    by_cases hlt : i < ps.length
    · have hiz : (i : Int) < (ps.length : Int) := by omega
      obtain ⟨p, hip⟩ : ∃ p, ps[i]? = some p := ⟨_, List.getElem?_eq_getElem hlt⟩
      obtain ⟨q, hiq⟩ : ∃ q, qs[i]? = some q := ⟨_, List.getElem?_eq_getElem (by rw [HLEN.out]; exact hlt)⟩
      have HPQ := Lib.hid (HD.out i p q hip hiq)
      have BW : Hid (Below w.heap.size w wr) := B1.out.trans (HB.out.mono B1.out.size)
      obtain ⟨b1, o1, rfl, hcp, hrp⟩ := (HP.out.later BW.out).at hip
      obtain ⟨b2, o2, rfl, hcq, hrq⟩ := (HQ.out.later BW.out).at hiq
      have HC1 : Hid (wr.rangeAt b1 (o1 + i * 18) p.cells) := hcp
      have HC2 : Hid (wr.rangeAt b2 (o2 + i * 18) q.cells) := hcq
      have HR1 := Lib.hid hrp
      have HR2 := Lib.hid hrq
      clear hcp hcq hrp hrq hip hiq
      go_wp2_with fail
      refine wp_region_held_drew (S := (fun W : World => Below wr.heap.size wr W)) (by kernel_rfl) (Below.refl _ _).drew (fun hS0 => ?_)
      refine wpAnyH_take (i := 0) (oi := { dst := some 42, op := _, type := _, pos := _, after := _, guard := _ }) (v := ?_) rfl (by kernel_rfl) (by kernel_rfl) (by kernel_rfl) (fun _ _ _ h => h) (Or.inl ⟨by kernel_rfl, ?_⟩) (by assumption) ?_
      rotate_left
      · (intro w hSw; (try dsimp only at hSw); go_simp); all_goals (with_reducible rfl)
      try simp only [Act.put, List.setIfInBounds_toArray, List.set_cons_zero, List.set_cons_succ]
      refine wpAnyH_take (i := 1) (oi := { dst := some 43, op := _, type := _, pos := _, after := _, guard := _ }) (v := ?_) rfl (by kernel_rfl) (by kernel_rfl) (by kernel_rfl) (fun _ _ _ h => h) (Or.inl ⟨by kernel_rfl, ?_⟩) (by assumption) ?_
      rotate_left
      · (intro w hSw; (try dsimp only at hSw); have k1 := cell_later hSw k0; have k2 := cell_later hSw m0; go_simp); all_goals (with_reducible rfl)
      try simp only [Act.put, List.setIfInBounds_toArray, List.set_cons_zero, List.set_cons_succ]
      refine wpAnyH_take (i := 2) (oi := { dst := some 44, op := _, type := _, pos := _, after := _, guard := _ }) (v := ?_) rfl (by kernel_rfl) (by kernel_rfl) (by kernel_rfl) (fun _ _ _ h => h) (Or.inl ⟨by kernel_rfl, ?_⟩) (by assumption) ?_
      rotate_left
      · (intro w hSw; (try dsimp only at hSw); go_simp); all_goals (with_reducible rfl)
      try simp only [Act.put, List.setIfInBounds_toArray, List.set_cons_zero, List.set_cons_succ]
      refine wpAnyH_take (i := 3) (oi := { dst := some 45, op := _, type := _, pos := _, after := _, guard := _ }) (v := ?_) rfl (by kernel_rfl) (by kernel_rfl) (by kernel_rfl) (fun _ _ _ h => h) (Or.inl ⟨by kernel_rfl, ?_⟩) (by assumption) ?_
      rotate_left
      · (intro w hSw; (try dsimp only at hSw); go_simp); all_goals (with_reducible rfl)
      try simp only [Act.put, List.setIfInBounds_toArray, List.set_cons_zero, List.set_cons_succ]
      refine wpAnyH_take (i := 4) (oi := { dst := some 46, op := _, type := _, pos := _, after := _, guard := _ }) (v := .agg (p.cells).toArray) rfl (by kernel_rfl) (by kernel_rfl) (by kernel_rfl) (fun _ _ _ h => h) (yieldsIf_load_mid (by kernel_rfl) 36 _ (by rfl) b1 (o1 + i * 18) (by rfl) (p.cells) _ (fun w hSw => by (try dsimp only at hSw); exact fun j u hj => cell_later hSw (HC1.out j u hj)) Tryd.underlying36 rfl (by rfl)) (by assumption) ?_
      try simp only [Act.put, List.setIfInBounds_toArray, List.set_cons_zero, List.set_cons_succ]
      refine wpAnyH_take (i := 5) (oi := { dst := some 47, op := _, type := _, pos := _, after := _, guard := _ }) (v := ?_) rfl (by kernel_rfl) (by kernel_rfl) (by kernel_rfl) (fun _ _ _ h => h) (Or.inl ⟨by kernel_rfl, ?_⟩) (by assumption) ?_
      rotate_left
      · (intro w hSw; (try dsimp only at hSw); go_simp); all_goals (with_reducible rfl)
      try simp only [Act.put, List.setIfInBounds_toArray, List.set_cons_zero, List.set_cons_succ]
      refine wpAnyH_take (i := 6) (oi := { dst := some 48, op := _, type := _, pos := _, after := _, guard := _ }) (v := ?_) rfl (by kernel_rfl) (by kernel_rfl) (by kernel_rfl) (fun _ _ _ h => h) (Or.inl ⟨by kernel_rfl, ?_⟩) (by assumption) ?_
      rotate_left
      · (intro w hSw; (try dsimp only at hSw); have k1 := cell_later hSw k0; have k2 := cell_later hSw m0; go_simp); all_goals (with_reducible rfl)
      try simp only [Act.put, List.setIfInBounds_toArray, List.set_cons_zero, List.set_cons_succ]
      refine wpAnyH_take (i := 7) (oi := { dst := some 49, op := _, type := _, pos := _, after := _, guard := _ }) (v := ?_) rfl (by kernel_rfl) (by kernel_rfl) (by kernel_rfl) (fun _ _ _ h => h) (Or.inl ⟨by kernel_rfl, ?_⟩) (by assumption) ?_
      rotate_left
      · (intro w hSw; (try dsimp only at hSw); go_simp); all_goals (with_reducible rfl)
      try simp only [Act.put, List.setIfInBounds_toArray, List.set_cons_zero, List.set_cons_succ]
      refine wpAnyH_take (i := 8) (oi := { dst := some 50, op := _, type := _, pos := _, after := _, guard := _ }) (v := ?_) rfl (by kernel_rfl) (by kernel_rfl) (by kernel_rfl) (fun _ _ _ h => h) (Or.inl ⟨by kernel_rfl, ?_⟩) (by assumption) ?_
      rotate_left
      · (intro w hSw; (try dsimp only at hSw); go_simp); all_goals (with_reducible rfl)
      try simp only [Act.put, List.setIfInBounds_toArray, List.set_cons_zero, List.set_cons_succ]
      refine wpAnyH_take (i := 9) (oi := { dst := some 51, op := _, type := _, pos := _, after := _, guard := _ }) (v := .agg (q.cells).toArray) rfl (by kernel_rfl) (by kernel_rfl) (by kernel_rfl) (fun _ _ _ h => h) (yieldsIf_load_mid (by kernel_rfl) 36 _ (by rfl) b2 (o2 + i * 18) (by rfl) (q.cells) _ (fun w hSw => by (try dsimp only at hSw); exact fun j u hj => cell_later hSw (HC2.out j u hj)) Tryd.underlying36 rfl (by rfl)) (by assumption) ?_
      try simp only [Act.put, List.setIfInBounds_toArray, List.set_cons_zero, List.set_cons_succ]
      refine wpAnyH_ready (rs := [10]) (by kernel_rfl) (by simp) ?_
      refine (AllReadyH.cons (o := { dst := some 52, op := _, type := _, pos := _, after := _, guard := _ }) rfl (fun K hK => ?_) AllReadyH.nil)
      rw [if_pos (by kernel_rfl)]
      refine wp_call_go Tryd.func43 (by kernel_rfl) (by kernel_rfl) (xs := [.tmp 46, .tmp 51]) (by rfl) (vs := [.agg p.cells.toArray, .agg q.cells.toArray]) (rSameRow_any p q _ HPQ.out (HR1.out.later hS0) (HR2.out.later hS0)) (by rfl) ?_
      rintro e w' ⟨rfl, hb⟩
      refine ⟨_, rfl, ?_⟩
      refine hK.out _ w' (hS0.trans (hb.mono hS0.size)) (fun hSe => ?_)
      clear hK K
      try simp only [Act.put, List.setIfInBounds_toArray, List.set_cons_zero, List.set_cons_succ]
      refine wpAnyH_take (i := 11) (oi := { dst := some 6, op := _, type := _, pos := _, after := _, guard := _ }) (v := ?_) rfl (by kernel_rfl) (by kernel_rfl) (by kernel_rfl) (fun _ _ _ h => h) (Or.inl ⟨by kernel_rfl, ?_⟩) (by assumption) ?_
      rotate_left
      · (intro w hSw; (try dsimp only at hSw); go_simp); all_goals (with_reducible rfl)
      try simp only [Act.put, List.setIfInBounds_toArray, List.set_cons_zero, List.set_cons_succ]
      refine wpAnyH_done (by kernel_rfl) ?_ _
      have BY := Lib.hid (HB.out.trans (hSe.mono HB.out.size))
      clear hSe hS0
      go_wp2_with fail
      go_roundg (ps.length - (i + 1))
      case measure => omega
      case rel => exact ⟨i + 1, by omega, Nat.le_refl _, vnext, BY.out⟩
    · obtain rfl : i = ps.length := by omega
      have BE := Lib.hid (B1.out.trans (HB.out.mono B1.out.size))
      go_wp2_with fail
      go_ret
      exact ⟨rfl, BE.out⟩
end Go.Proofs.YtgklbmcnpnmkkaaDoor
