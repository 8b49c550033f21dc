/-
  ListingAlone: the walk. (Printed by wip/gen/lsalone.py.)
-/
import Derived.Test.YtgklbmcnpnmkkaaDoorLsAloneP
import Derived.Test.YtgklbmcnpnmkkaaDoorLsEx
import Derived.Test.YtgklbmcnpnmkkaaDoorLsSame
import Derived.Test.YtgklbmcnpnmkkaaDoorWpCall
namespace Go.Proofs.YtgklbmcnpnmkkaaDoor
open Go.RowKit Go.Lib

set_option maxHeartbeats 8000000 in
set_option maxRecDepth 100000 in
theorem alone_walk {w : World} {a0 : Option Addr} {c0 : Nat} {ps : List RowV} (hG : GlobL w) (h : RowsIn w (.slice a0 ps.length c0) ps) (hz : ∀ p ∈ ps, SizeOK p.d) (hk : ∀ p ∈ ps, p.d.key.length ≤ 140737488355320) (_hl : ps.length ≤ 140737488351232)
    (HSO : Hid (∀ W, Below w.heap.size w W → Calls Tryd.prog 9 #[.slice a0 ps.length c0] W (SrtOut ps W))) :
    Calls Tryd.prog 5 #[.slice a0 ps.length c0] w (fun e w' => e = .returned (.bool true) ∧ Below w.heap.size w w') := by
  have HG := Lib.hid hG
  have HR := Lib.hid h
  have HZ := Lib.hid (And.intro hz hk)
  clear hG h hz hk
  go_enter Tryd.func5, Tryd.ntmps5
  go_wp2_with fail
  refine (examples_walk w HG.out).mono ?_
  rintro e w1 ⟨rfl, hb1⟩
  have B1 := Lib.hid hb1
  clear hb1
  go_wp2_with fail
  refine (HSO.out _ B1.out).mono ?_
  intro e w2 hso
  obtain ⟨v, rfl, hr2, hb2, hm2⟩ := SrtOut.rows hso (HR.out.later B1.out)
  obtain ⟨av, cv, rfl, hln⟩ := hr2.form
  have B2 := Lib.hid (B1.out.trans (hb2.mono B1.out.size))
  have HLI := Lib.hid (sorted_list (pre := []) (delim := []) hr2 (HG.out.later B2.out) hm2 HZ.out.1 (fun p hp => ⟨HZ.out.2 p hp, .inl rfl⟩) (by decide) (by decide))
  clear hso hr2 hb2 hm2
  have hv := versions_any [] 0 1000 HLI.out
  rw [sortedV_d, page_alone] at hv
  have HV := Lib.hid hv
  have HRS := Lib.hid HLI.out.rows
  clear hv
  go_wp2_with fail
  refine (HV.out).mono ?_
  rintro e w3 ⟨vr, qs, rfl, hq, hr3, hb3⟩
  have hq' : qs.map RowV.d = ((sortedV ps).map RowV.d).map (told .vers) := by rw [sortedV_d]; exact hq
  have hlen : qs.length = (sortedV ps).length := by have := congrArg List.length hq'; simpa using this
  have hpz : ∀ q ∈ qs, SizeOK q.d := by
    intro q hqm
    have h1 : q.d ∈ ((sortedV ps).map RowV.d).map (told .vers) := by rw [← hq']; exact List.mem_map_of_mem hqm
    obtain ⟨r, h2, h3⟩ := List.mem_map.1 h1
    obtain ⟨p, h4, rfl⟩ := List.mem_map.1 h2
    have := HLI.out.size p h4
    rw [← h3]
    exact ⟨this.1, Nat.zero_le _⟩
  obtain ⟨ar, cr, hvr⟩ := own_form hr3.own
  subst hvr
  have hns := sortedV_len ps
  have HPR := Lib.hid (hr3.toIn (by omega) hpz)
  have HRL := Lib.hid (HRS.out.later hb3)
  have HCM : Hid (∀ s ∈ sortedV ps, s.d.common = false) := fun s hs => ((sortedL_ok (ps.map RowV.d)).2.1 s.d (by rw [← sortedV_d]; exact List.mem_map_of_mem hs)).1
  have B3 := Lib.hid (B2.out.trans (hb3.mono B2.out.size))
  have HQ := Lib.hid hq'
  clear hq hq' hr3 hb3 hpz HV HLI HRS HSO HZ HR
  rw [hlen]
  rw [hlen] at HPR
  generalize hso : sortedV ps = so at *
  go_wp2_with (refine wpList_store_row (by rfl) 26 _ _ (by rfl) w3.heap.size #[.slice ar so.length cr, .bool false, .string ⟨#[]⟩, .int .i64 0] (by rfl) (by rfl) 26 pageZC (by exact heap_alloc_new _ _) (by kernel_rfl) (by rfl) (by kernel_rfl) ?_; rw [setRow_alloc _ _ _ _ _ rfl])
  have HPG : Hid ((w3.alloc (.cells #[.slice ar so.length cr, .bool false, .string ⟨#[]⟩, .int .i64 0] 26)).heap[w3.heap.size]? = some (.cells #[.slice ar so.length cr, .bool false, .string ⟨#[]⟩, .int .i64 0] 26 (0, 0))) := heap_alloc_new _ _
  have B4 : Hid (Below w3.heap.size w3 (w3.alloc (.cells #[.slice ar so.length cr, .bool false, .string ⟨#[]⟩, .int .i64 0] 26))) := below_alloc (Below.refl _ _) (Nat.le_refl _) _
  generalize w3.alloc (.cells #[.slice ar so.length cr, .bool false, .string ⟨#[]⟩, .int .i64 0] 26) = W4 at *
  have HP4 := Lib.hid (HPR.out.later B4.out)
  have HL4 := Lib.hid (HRL.out.later B4.out)
  have B5 := Lib.hid (B3.out.trans (B4.out.mono B3.out.size))
  generalize hgp : w3.heap.size = gp at *
  have HPC0 : Hid (W4.cell? ⟨gp, 0, none⟩ = some (.slice ar so.length cr)) := cell_of_heap HPG.out
  clear HPR HRL B3 B4 HPG hgp
  go_loopg [6] so.length (fun gg s6 wr => ∃ i : Nat, i ≤ so.length ∧ so.length - i ≤ gg ∧ s6 = .int .i64 i ∧ Hid (Below W4.heap.size W4 wr))
  case atStart => exact ⟨0, Nat.zero_le _, by omega, rfl, Below.refl _ _⟩
  case round =>
    obtain ⟨i, hi, hg, rfl, HB⟩ := hrel
    have hw1 : wrap64 ((i : Int) + 1) = (i : Int) + 1 := by unfold wrap64; omega
    by_cases hlt : i < so.length
    · have hiz : (i : Int) < (so.length : Int) := by omega
      have hc0 := cell_later HB.out HPC0.out
      have hil : i < qs.length := by rw [hlen]; exact hlt
      obtain ⟨q, hiq⟩ : ∃ q, qs[i]? = some q := ⟨_, List.getElem?_eq_getElem hil⟩
      obtain ⟨s, his⟩ : ∃ s, so[i]? = some s := ⟨_, List.getElem?_eq_getElem hlt⟩
      have hqs : q.d = told .vers s.d := by
        have h1 := congrArg (fun l => l[i]?) HQ.out
        simp only [List.getElem?_map, hiq, his, Option.map_some] at h1
        exact Option.some.inj h1
      obtain ⟨b1, o1, rfl, hcq, -⟩ := (HP4.out.later HB.out).at hiq
      obtain ⟨b2, o2, rfl, hcs, -⟩ := (HL4.out.later HB.out).at his
      have HC1 : Hid (wr.rangeAt b1 (o1 + i * 18) q.cells) := hcq
      have HC2 : Hid (wr.rangeAt b2 (o2 + i * 18) s.cells) := hcs
      have HSE : Hid (sameE q.d s.d = true) := by
        show _ = _
        rw [hqs]
        have := HCM.out s (List.mem_of_getElem? his)
        unfold sameE
        rw [told_key, told_common, this]
        simp [told]
      have cl1 : Hid (wr.cell? ⟨b1, o1 + i * 18 + 2, none⟩ = some (.bool s.d.latest)) := (hcq 2 _ rfl).trans (by rw [hqs]; rfl)
      have cl2 : Hid (wr.cell? ⟨b2, o2 + i * 18 + 2, none⟩ = some (.bool s.d.latest)) := hcs 2 _ rfl
      clear hcq hcs hiq his hqs
      go_upto_region 9 with (fail)
      refine wp_region_held_drew (S := (fun W : World => Below wr.heap.size wr W)) (by kernel_rfl) (Below.refl _ _).drew (fun hS0 => ?_)
      refine wpAnyH_take (i := 0) (oi := { dst := some 28, op := _, type := _, pos := _, after := _, guard := _ }) (v := ?_) rfl (by kernel_rfl) (by kernel_rfl) (by kernel_rfl) (fun _ _ _ h => h) (Or.inl ⟨by kernel_rfl, ?_⟩) (by assumption) ?_
      rotate_left
      · (intro w hSw; (try dsimp only at hSw); go_simp); all_goals (with_reducible rfl)
      try simp only [Act.put, List.setIfInBounds_toArray, List.set_cons_zero, List.set_cons_succ]
      refine wpAnyH_take (i := 1) (oi := { dst := some 29, op := _, type := _, pos := _, after := _, guard := _ }) (v := ?_) rfl (by kernel_rfl) (by kernel_rfl) (by kernel_rfl) (fun _ _ _ h => h) (Or.inl ⟨by kernel_rfl, ?_⟩) (by assumption) ?_
      rotate_left
      · (intro w hSw; (try dsimp only at hSw); have k0 := cell_later hSw hc0; have k1 := cell_later hSw cl1.out; have k2 := cell_later hSw cl2.out; go_simp); all_goals (with_reducible rfl)
      try simp only [Act.put, List.setIfInBounds_toArray, List.set_cons_zero, List.set_cons_succ]
      refine wpAnyH_take (i := 2) (oi := { dst := some 30, op := _, type := _, pos := _, after := _, guard := _ }) (v := ?_) rfl (by kernel_rfl) (by kernel_rfl) (by kernel_rfl) (fun _ _ _ h => h) (Or.inl ⟨by kernel_rfl, ?_⟩) (by assumption) ?_
      rotate_left
      · (intro w hSw; (try dsimp only at hSw); go_simp); all_goals (with_reducible rfl)
      try simp only [Act.put, List.setIfInBounds_toArray, List.set_cons_zero, List.set_cons_succ]
      refine wpAnyH_take (i := 3) (oi := { dst := some 31, op := _, type := _, pos := _, after := _, guard := _ }) (v := ?_) rfl (by kernel_rfl) (by kernel_rfl) (by kernel_rfl) (fun _ _ _ h => h) (Or.inl ⟨by kernel_rfl, ?_⟩) (by assumption) ?_
      rotate_left
      · (intro w hSw; (try dsimp only at hSw); go_simp); all_goals (with_reducible rfl)
      try simp only [Act.put, List.setIfInBounds_toArray, List.set_cons_zero, List.set_cons_succ]
      refine wpAnyH_take (i := 4) (oi := { dst := some 32, op := _, type := _, pos := _, after := _, guard := _ }) (v := .agg (q.cells).toArray) rfl (by kernel_rfl) (by kernel_rfl) (by kernel_rfl) (fun _ _ _ h => h) (yieldsIf_load_mid (by kernel_rfl) 36 _ (by rfl) b1 (o1 + i * 18) (by rfl) (q.cells) _ (fun w hSw => by (try dsimp only at hSw); exact fun j u hj => cell_later hSw (HC1.out j u hj)) Tryd.underlying36 rfl (by rfl)) (by assumption) ?_
      try simp only [Act.put, List.setIfInBounds_toArray, List.set_cons_zero, List.set_cons_succ]
      refine wpAnyH_take (i := 5) (oi := { dst := some 33, op := _, type := _, pos := _, after := _, guard := _ }) (v := ?_) rfl (by kernel_rfl) (by kernel_rfl) (by kernel_rfl) (fun _ _ _ h => h) (Or.inl ⟨by kernel_rfl, ?_⟩) (by assumption) ?_
      rotate_left
      · (intro w hSw; (try dsimp only at hSw); go_simp); all_goals (with_reducible rfl)
      try simp only [Act.put, List.setIfInBounds_toArray, List.set_cons_zero, List.set_cons_succ]
      refine wpAnyH_take (i := 6) (oi := { dst := some 34, op := _, type := _, pos := _, after := _, guard := _ }) (v := ?_) rfl (by kernel_rfl) (by kernel_rfl) (by kernel_rfl) (fun _ _ _ h => h) (Or.inl ⟨by kernel_rfl, ?_⟩) (by assumption) ?_
      rotate_left
      · (intro w hSw; (try dsimp only at hSw); go_simp); all_goals (with_reducible rfl)
      try simp only [Act.put, List.setIfInBounds_toArray, List.set_cons_zero, List.set_cons_succ]
      refine wpAnyH_take (i := 7) (oi := { dst := some 35, op := _, type := _, pos := _, after := _, guard := _ }) (v := ?_) rfl (by kernel_rfl) (by kernel_rfl) (by kernel_rfl) (fun _ _ _ h => h) (Or.inl ⟨by kernel_rfl, ?_⟩) (by assumption) ?_
      rotate_left
      · (intro w hSw; (try dsimp only at hSw); go_simp); all_goals (with_reducible rfl)
      try simp only [Act.put, List.setIfInBounds_toArray, List.set_cons_zero, List.set_cons_succ]
      refine wpAnyH_take (i := 8) (oi := { dst := some 36, op := _, type := _, pos := _, after := _, guard := _ }) (v := .agg (s.cells).toArray) rfl (by kernel_rfl) (by kernel_rfl) (by kernel_rfl) (fun _ _ _ h => h) (yieldsIf_load_mid (by kernel_rfl) 36 _ (by rfl) b2 (o2 + i * 18) (by rfl) (s.cells) _ (fun w hSw => by (try dsimp only at hSw); exact fun j u hj => cell_later hSw (HC2.out j u hj)) Tryd.underlying36 rfl (by rfl)) (by assumption) ?_
      try simp only [Act.put, List.setIfInBounds_toArray, List.set_cons_zero, List.set_cons_succ]
      refine wpAnyH_ready (rs := [9]) (by kernel_rfl) (by simp) ?_
      refine (AllReadyH.cons (o := { dst := some 37, op := _, type := _, pos := _, after := _, guard := _ }) rfl (fun K hK => ?_) AllReadyH.nil)
      rw [if_pos (by kernel_rfl)]
      refine wp_call_go Tryd.func11 (by kernel_rfl) (by kernel_rfl) (xs := [.tmp 32, .tmp 36]) (by rfl) (vs := [.agg q.cells.toArray, .agg s.cells.toArray]) (same_any q s _) (by rfl) ?_
      rintro e w' ⟨rfl, hb⟩
      rw [HSE.out]
      refine ⟨_, rfl, ?_⟩
      refine hK.out _ w' (hS0.trans (hb.mono hS0.size)) (fun hSe => ?_)
      clear hK K
      try simp only [Act.put, List.setIfInBounds_toArray, List.set_cons_zero, List.set_cons_succ]
      refine wpAnyH_take (i := 10) (oi := { dst := some 38, op := _, type := _, pos := _, after := _, guard := _ }) (v := ?_) rfl (by kernel_rfl) (by kernel_rfl) (by kernel_rfl) (fun _ _ _ h => h) (Or.inl ⟨by kernel_rfl, ?_⟩) (by assumption) ?_
      rotate_left
      · (intro w hSw; (try dsimp only at hSw); go_simp); all_goals (with_reducible rfl)
      try simp only [Act.put, List.setIfInBounds_toArray, List.set_cons_zero, List.set_cons_succ]
      refine wpAnyH_take (i := 11) (oi := { dst := some 39, op := _, type := _, pos := _, after := _, guard := _ }) (v := ?_) rfl (by kernel_rfl) (by kernel_rfl) (by kernel_rfl) (fun _ _ _ h => h) (Or.inl ⟨by kernel_rfl, ?_⟩) (by assumption) ?_
      rotate_left
      · (intro w hSw; (try dsimp only at hSw); go_simp); all_goals (with_reducible rfl)
      try simp only [Act.put, List.setIfInBounds_toArray, List.set_cons_zero, List.set_cons_succ]
      refine wpAnyH_take (i := 12) (oi := { dst := some 40, op := _, type := _, pos := _, after := _, guard := _ }) (v := ?_) rfl (by kernel_rfl) (by kernel_rfl) (by kernel_rfl) (fun _ _ _ h => h) (Or.inl ⟨by kernel_rfl, ?_⟩) (by assumption) ?_
      rotate_left
      · (intro w hSw; (try dsimp only at hSw); go_simp); all_goals (with_reducible rfl)
      try simp only [Act.put, List.setIfInBounds_toArray, List.set_cons_zero, List.set_cons_succ]
      refine wpAnyH_take (i := 13) (oi := { dst := some 41, op := _, type := _, pos := _, after := _, guard := _ }) (v := ?_) rfl (by kernel_rfl) (by kernel_rfl) (by kernel_rfl) (fun _ _ _ h => h) (Or.inl ⟨by kernel_rfl, ?_⟩) (by assumption) ?_
      rotate_left
      · (intro w hSw; (try dsimp only at hSw); have k0 := cell_later hSw hc0; have k1 := cell_later hSw cl1.out; have k2 := cell_later hSw cl2.out; go_simp); all_goals (with_reducible rfl)
      try simp only [Act.put, List.setIfInBounds_toArray, List.set_cons_zero, List.set_cons_succ]
      refine wpAnyH_take (i := 14) (oi := { dst := some 42, op := _, type := _, pos := _, after := _, guard := _ }) (v := ?_) rfl (by kernel_rfl) (by kernel_rfl) (by kernel_rfl) (fun _ _ _ h => h) (Or.inl ⟨by kernel_rfl, ?_⟩) (by assumption) ?_
      rotate_left
      · (intro w hSw; (try dsimp only at hSw); go_simp); all_goals (with_reducible rfl)
      try simp only [Act.put, List.setIfInBounds_toArray, List.set_cons_zero, List.set_cons_succ]
      refine wpAnyH_take (i := 15) (oi := { dst := some 43, op := _, type := _, pos := _, after := _, guard := _ }) (v := ?_) rfl (by kernel_rfl) (by kernel_rfl) (by kernel_rfl) (fun _ _ _ h => h) (Or.inl ⟨by kernel_rfl, ?_⟩) (by assumption) ?_
      rotate_left
      · (intro w hSw; (try dsimp only at hSw); go_simp); all_goals (with_reducible rfl)
      try simp only [Act.put, List.setIfInBounds_toArray, List.set_cons_zero, List.set_cons_succ]
      refine wpAnyH_take (i := 16) (oi := { dst := some 44, op := _, type := _, pos := _, after := _, guard := _ }) (v := ?_) rfl (by kernel_rfl) (by kernel_rfl) (by kernel_rfl) (fun _ _ _ h => h) (Or.inl ⟨by kernel_rfl, ?_⟩) (by assumption) ?_
      rotate_left
      · (intro w hSw; (try dsimp only at hSw); go_simp); all_goals (with_reducible rfl)
      try simp only [Act.put, List.setIfInBounds_toArray, List.set_cons_zero, List.set_cons_succ]
      refine wpAnyH_take (i := 17) (oi := { dst := some 45, op := _, type := _, pos := _, after := _, guard := _ }) (v := ?_) rfl (by kernel_rfl) (by kernel_rfl) (by kernel_rfl) (fun _ _ _ h => h) (Or.inl ⟨by kernel_rfl, ?_⟩) (by assumption) ?_
      rotate_left
      · (intro w hSw; (try dsimp only at hSw); have k0 := cell_later hSw hc0; have k1 := cell_later hSw cl1.out; have k2 := cell_later hSw cl2.out; go_simp); all_goals (with_reducible rfl)
      try simp only [Act.put, List.setIfInBounds_toArray, List.set_cons_zero, List.set_cons_succ]
      refine wpAnyH_take (i := 18) (oi := { dst := some 46, op := _, type := _, pos := _, after := _, guard := _ }) (v := ?_) rfl (by kernel_rfl) (by kernel_rfl) (by kernel_rfl) (fun _ _ _ h => h) (Or.inl ⟨by kernel_rfl, ?_⟩) (by assumption) ?_
      rotate_left
      · (intro w hSw; (try dsimp only at hSw); go_simp); all_goals (with_reducible rfl)
      try simp only [Act.put, List.setIfInBounds_toArray, List.set_cons_zero, List.set_cons_succ]
      refine wpAnyH_take (i := 19) (oi := { dst := some 47, op := _, type := _, pos := _, after := _, guard := _ }) (v := ?_) rfl (by kernel_rfl) (by kernel_rfl) (by kernel_rfl) (fun _ _ _ h => h) (Or.inl ⟨by kernel_rfl, ?_⟩) (by assumption) ?_
      rotate_left
      · (intro w hSw; (try dsimp only at hSw); go_simp); all_goals (with_reducible rfl)
      try simp only [Act.put, List.setIfInBounds_toArray, List.set_cons_zero, List.set_cons_succ]
      refine wpAnyH_take (i := 20) (oi := { dst := some 48, op := _, type := _, pos := _, after := _, guard := _ }) (v := ?_) rfl (by kernel_rfl) (by kernel_rfl) (by kernel_rfl) (fun _ _ _ h => h) (Or.inl ⟨by kernel_rfl, ?_⟩) (by assumption) ?_
      rotate_left
      · (intro w hSw; (try dsimp only at hSw); go_simp); all_goals (with_reducible rfl)
      try simp only [Act.put, List.setIfInBounds_toArray, List.set_cons_zero, List.set_cons_succ]
      refine wpAnyH_take (i := 21) (oi := { dst := some 49, op := _, type := _, pos := _, after := _, guard := _ }) (v := ?_) rfl (by kernel_rfl) (by kernel_rfl) (by kernel_rfl) (fun _ _ _ h => h) (Or.inl ⟨by kernel_rfl, ?_⟩) (by assumption) ?_
      rotate_left
      · (intro w hSw; (try dsimp only at hSw); go_simp); all_goals (with_reducible rfl)
      try simp only [Act.put, List.setIfInBounds_toArray, List.set_cons_zero, List.set_cons_succ]
      refine wpAnyH_take (i := 22) (oi := { dst := some 50, op := _, type := _, pos := _, after := _, guard := _ }) (v := ?_) rfl (by kernel_rfl) (by kernel_rfl) (by kernel_rfl) (fun _ _ _ h => h) (Or.inl ⟨by kernel_rfl, ?_⟩) (by assumption) ?_
      rotate_left
      · (intro w hSw; (try dsimp only at hSw); have k0 := cell_later hSw hc0; have k1 := cell_later hSw cl1.out; have k2 := cell_later hSw cl2.out; go_simp); all_goals (with_reducible rfl)
      try simp only [Act.put, List.setIfInBounds_toArray, List.set_cons_zero, List.set_cons_succ]
      refine wpAnyH_take (i := 23) (oi := { dst := some 51, op := _, type := _, pos := _, after := _, guard := _ }) (v := ?_) rfl (by kernel_rfl) (by kernel_rfl) (by kernel_rfl) (fun _ _ _ h => h) (Or.inl ⟨by kernel_rfl, ?_⟩) (by assumption) ?_
      rotate_left
      · (intro w hSw; (try dsimp only at hSw); go_simp); all_goals (with_reducible rfl)
      try simp only [Act.put, List.setIfInBounds_toArray, List.set_cons_zero, List.set_cons_succ]
      refine wpAnyH_take (i := 24) (oi := { dst := some 52, op := _, type := _, pos := _, after := _, guard := _ }) (v := ?_) rfl (by kernel_rfl) (by kernel_rfl) (by kernel_rfl) (fun _ _ _ h => h) (Or.inl ⟨by kernel_rfl, ?_⟩) (by assumption) ?_
      rotate_left
      · (intro w hSw; (try dsimp only at hSw); go_simp); all_goals (with_reducible rfl)
      try simp only [Act.put, List.setIfInBounds_toArray, List.set_cons_zero, List.set_cons_succ]
      refine wpAnyH_done (by kernel_rfl) ?_ _
      have BY := Lib.hid (HB.out.trans (hSe.mono HB.out.size))
      clear hSe hS0
      go_wp2_with fail
      go_roundg (so.length - (i + 1))
      case measure => omega
      case rel => exact ⟨i + 1, by omega, Nat.le_refl _, by go_num, BY.out⟩
    · have hiz : ¬ (i : Int) < (so.length : Int) := by omega
      have BE := Lib.hid (B5.out.trans (HB.out.mono B5.out.size))
      go_wp2_with fail
      go_ret
      exact ⟨rfl, BE.out⟩
end Go.Proofs.YtgklbmcnpnmkkaaDoor
