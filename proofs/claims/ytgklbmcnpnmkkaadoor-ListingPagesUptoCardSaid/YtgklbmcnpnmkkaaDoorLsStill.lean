/-
  storehouselaw20.still: rows that are as they were. (Printed by wip/gen/lsstill.py.)
-/
import Derived.Test.YtgklbmcnpnmkkaaDoorSm20
import Derived.Test.YtgklbmcnpnmkkaaDoorSm3
import Derived.Test.YtgklbmcnpnmkkaaDoorLsCopied
import Derived.Deep.RegionHeld
namespace Go.Proofs.YtgklbmcnpnmkkaaDoor
open Go.RowKit Go.Lib

set_option maxHeartbeats 4000000 in
set_option maxRecDepth 100000 in
theorem still_any {ps xs : List RowV} {a a' : Option Addr} {c c' : Nat} (w : World) (hd : xs.map RowV.d = ps.map RowV.d) (h : RowsIn w (.slice a (ps.length + 1) c) (xs ++ [markV])) (h' : RowsIn w (.slice a' ps.length c') ps) (hl : ps.length ≤ 16777216) :
    Calls Tryd.prog 24 #[.slice a (ps.length + 1) c, .slice a' ps.length c'] w fun e w' => e = .returned (.bool true) ∧ Below w.heap.size w w' := by
  have hlen : xs.length = ps.length := by have := congrArg List.length hd; simpa using this
  have HX : Hid (∀ (i : Nat) (q : RowV), i < ps.length → ps[i]? = some q → ∃ p, (xs ++ [markV])[i]? = some p ∧ p.d = q.d) := fun i q hlt hq => by
    have := congrArg (fun l => l[i]?) hd
    simp only [List.getElem?_map, hq, Option.map_some] at this
    obtain ⟨p, hp, hpd⟩ := Option.map_eq_some_iff.1 this
    exact ⟨p, by rw [List.getElem?_append_left (by omega)]; exact hp, hpd⟩
  have HMK : Hid ((xs ++ [markV])[ps.length]? = some markV) := by show _ = _; rw [← hlen]; simp
  have HP := Lib.hid h
  have HQ := Lib.hid h'
  clear hd h h' hlen
  generalize xs ++ [markV] = ys at *
  go_enter Tryd.func24, Tryd.ntmps24
  go_wp2_with fail
  go_loopg [5] ps.length (fun gg s5 wr => ∃ i : Nat, i ≤ ps.length ∧ ps.length - i ≤ gg ∧ s5 = .int .i64 i ∧ Hid (Below w.heap.size w wr))
  case atStart => exact ⟨0, Nat.zero_le _, by omega, rfl, Below.refl _ _⟩
  case round =>
    obtain ⟨i, hin, hgg, rfl, HB⟩ := hrel
    by_cases hlt : i < ps.length
    · have hiz : (i : Int) < (ps.length : Int) := by omega
      have hiz2 : (i : Int) < (ps.length : Int) + 1 := by omega
      have hin2 : i < ps.length + 1 := by omega
      obtain ⟨q, hiq⟩ : ∃ q, ps[i]? = some q := ⟨_, List.getElem?_eq_getElem hlt⟩
      obtain ⟨p, hip, hpd⟩ := HX.out i q hlt hiq
      have HPQ := Lib.hid hpd
      obtain ⟨b1, o1, rfl, hcp, hrp⟩ := (HP.out.later HB.out).at hip
      obtain ⟨b2, o2, rfl, hcq, hrq⟩ := (HQ.out.later HB.out).at hiq
      have HC1 : Hid (wr.rangeAt b1 (o1 + i * 18) p.cells) := hcp
      have HC2 : Hid (wr.rangeAt b2 (o2 + i * 18) q.cells) := hcq
      have HR1 := Lib.hid hrp
      have HR2 := Lib.hid hrq
      clear hcp hcq hrp hrq hip hiq hpd
      go_wp2_with fail
      refine wp_region_held_drew (S := (fun W : World => Below wr.heap.size wr W)) (by kernel_rfl) (Below.refl _ _).drew (fun hS0 => ?_)
      refine wpAnyH_take (i := 0) (oi := { dst := some 13, op := _, type := _, pos := _, after := _, guard := _ }) (v := ?_) rfl (by kernel_rfl) (by kernel_rfl) (by kernel_rfl) (fun _ _ _ h => h) (Or.inl ⟨by kernel_rfl, ?_⟩) (by assumption) ?_
      rotate_left
      · (intro w hSw; (try dsimp only at hSw); go_simp); all_goals (with_reducible rfl)
      try simp only [Act.put, List.setIfInBounds_toArray, List.set_cons_zero, List.set_cons_succ]
      refine wpAnyH_take (i := 1) (oi := { dst := some 14, op := _, type := _, pos := _, after := _, guard := _ }) (v := ?_) rfl (by kernel_rfl) (by kernel_rfl) (by kernel_rfl) (fun _ _ _ h => h) (Or.inl ⟨by kernel_rfl, ?_⟩) (by assumption) ?_
      rotate_left
      · (intro w hSw; (try dsimp only at hSw); go_simp); all_goals (with_reducible rfl)
      try simp only [Act.put, List.setIfInBounds_toArray, List.set_cons_zero, List.set_cons_succ]
      refine wpAnyH_take (i := 2) (oi := { dst := some 15, op := _, type := _, pos := _, after := _, guard := _ }) (v := ?_) rfl (by kernel_rfl) (by kernel_rfl) (by kernel_rfl) (fun _ _ _ h => h) (Or.inl ⟨by kernel_rfl, ?_⟩) (by assumption) ?_
      rotate_left
      · (intro w hSw; (try dsimp only at hSw); go_simp); all_goals (with_reducible rfl)
      try simp only [Act.put, List.setIfInBounds_toArray, List.set_cons_zero, List.set_cons_succ]
      refine wpAnyH_take (i := 3) (oi := { dst := some 16, op := _, type := _, pos := _, after := _, guard := _ }) (v := .agg (p.cells).toArray) rfl (by kernel_rfl) (by kernel_rfl) (by kernel_rfl) (fun _ _ _ h => h) (yieldsIf_load_mid (by kernel_rfl) 36 _ (by rfl) b1 (o1 + i * 18) (by rfl) (p.cells) _ (fun w hSw => by (try dsimp only at hSw); exact fun j u hj => cell_later hSw (HC1.out j u hj)) Tryd.underlying36 rfl (by rfl)) (by assumption) ?_
      try simp only [Act.put, List.setIfInBounds_toArray, List.set_cons_zero, List.set_cons_succ]
      refine wpAnyH_take (i := 4) (oi := { dst := some 17, op := _, type := _, pos := _, after := _, guard := _ }) (v := ?_) rfl (by kernel_rfl) (by kernel_rfl) (by kernel_rfl) (fun _ _ _ h => h) (Or.inl ⟨by kernel_rfl, ?_⟩) (by assumption) ?_
      rotate_left
      · (intro w hSw; (try dsimp only at hSw); go_simp); all_goals (with_reducible rfl)
      try simp only [Act.put, List.setIfInBounds_toArray, List.set_cons_zero, List.set_cons_succ]
      refine wpAnyH_take (i := 5) (oi := { dst := some 18, op := _, type := _, pos := _, after := _, guard := _ }) (v := ?_) rfl (by kernel_rfl) (by kernel_rfl) (by kernel_rfl) (fun _ _ _ h => h) (Or.inl ⟨by kernel_rfl, ?_⟩) (by assumption) ?_
      rotate_left
      · (intro w hSw; (try dsimp only at hSw); go_simp); all_goals (with_reducible rfl)
      try simp only [Act.put, List.setIfInBounds_toArray, List.set_cons_zero, List.set_cons_succ]
      refine wpAnyH_take (i := 6) (oi := { dst := some 19, op := _, type := _, pos := _, after := _, guard := _ }) (v := ?_) rfl (by kernel_rfl) (by kernel_rfl) (by kernel_rfl) (fun _ _ _ h => h) (Or.inl ⟨by kernel_rfl, ?_⟩) (by assumption) ?_
      rotate_left
      · (intro w hSw; (try dsimp only at hSw); go_simp); all_goals (with_reducible rfl)
      try simp only [Act.put, List.setIfInBounds_toArray, List.set_cons_zero, List.set_cons_succ]
      refine wpAnyH_take (i := 7) (oi := { dst := some 20, op := _, type := _, pos := _, after := _, guard := _ }) (v := .agg (q.cells).toArray) rfl (by kernel_rfl) (by kernel_rfl) (by kernel_rfl) (fun _ _ _ h => h) (yieldsIf_load_mid (by kernel_rfl) 36 _ (by rfl) b2 (o2 + i * 18) (by rfl) (q.cells) _ (fun w hSw => by (try dsimp only at hSw); exact fun j u hj => cell_later hSw (HC2.out j u hj)) Tryd.underlying36 rfl (by rfl)) (by assumption) ?_
      try simp only [Act.put, List.setIfInBounds_toArray, List.set_cons_zero, List.set_cons_succ]
      refine wpAnyH_ready (rs := [8]) (by kernel_rfl) (by simp) ?_
      refine (AllReadyH.cons (o := { dst := some 21, op := _, type := _, pos := _, after := _, guard := _ }) rfl (fun K hK => ?_) AllReadyH.nil)
      rw [if_pos (by kernel_rfl)]
      refine wp_call_go Tryd.func43 (by kernel_rfl) (by kernel_rfl) (xs := [.tmp 16, .tmp 20]) (by rfl) (vs := [.agg p.cells.toArray, .agg q.cells.toArray]) (rSameRow_any p q _ HPQ.out (HR1.out.later hS0) (HR2.out.later hS0)) (by rfl) ?_
      rintro e w' ⟨rfl, hb⟩
      refine ⟨_, rfl, ?_⟩
      refine hK.out _ w' (hS0.trans (hb.mono hS0.size)) (fun hSe => ?_)
      clear hK K
      try simp only [Act.put, List.setIfInBounds_toArray, List.set_cons_zero, List.set_cons_succ]
      refine wpAnyH_take (i := 9) (oi := { dst := some 6, op := _, type := _, pos := _, after := _, guard := _ }) (v := ?_) rfl (by kernel_rfl) (by kernel_rfl) (by kernel_rfl) (fun _ _ _ h => h) (Or.inl ⟨by kernel_rfl, ?_⟩) (by assumption) ?_
      rotate_left
      · (intro w hSw; (try dsimp only at hSw); go_simp); all_goals (with_reducible rfl)
      try simp only [Act.put, List.setIfInBounds_toArray, List.set_cons_zero, List.set_cons_succ]
      refine wpAnyH_done (by kernel_rfl) ?_ _
      have BY := Lib.hid (HB.out.trans (hSe.mono HB.out.size))
      clear hSe hS0
      go_wp2_with fail
      go_roundg (ps.length - (i + 1))
      case measure => omega
      case rel => exact ⟨i + 1, by omega, Nat.le_refl _, vnext, BY.out⟩
    · obtain rfl : i = ps.length := by omega
      have hlz : (ps.length : Int) < (ps.length : Int) + 1 := by omega
      obtain ⟨b1, o1, rfl, hcp, -⟩ := (HP.out.later HB.out).at HMK.out
      have k0 : wr.cell? ⟨b1, o1 + ps.length * 18, none⟩ = some (.string ⟨#[109, 97, 114, 107]⟩) := hcp 0 _ rfl
      clear hcp
      go_wp2_with fail
      go_ret
      exact ⟨rfl, HB.out⟩
end Go.Proofs.YtgklbmcnpnmkkaaDoor
