/-
  ListingWhole: the walk. (Printed by wip/gen/lswhole.py.)
-/
import Derived.Test.YtgklbmcnpnmkkaaDoorLsWholeP
import Derived.Test.YtgklbmcnpnmkkaaDoorLsEx
import Derived.Test.YtgklbmcnpnmkkaaDoorWpCall
namespace Go.Proofs.YtgklbmcnpnmkkaaDoor
open Go.RowKit Go.Lib

theorem whole_nums {i N rl al bl ql sl : Nat} (hN : N = al + i) (hi : i ≤ rl) (hpl : rl ≤ bl) (hab : al + bl = ql) (hel : ql ≤ sl) (hns : sl ≤ 200) :
    N ≤ 200 ∧ i ≤ 200 ∧ (i < rl → (i : Int) < (rl : Int) ∧ (N : Int) < (ql : Int) ∧ ¬ (ql : Int) ≤ (N : Int) ∧ N < ql) ∧ (¬ i < rl → ¬ (i : Int) < (rl : Int) ∧ i = rl ∧ (rl = bl → (N : Int) = (ql : Int))) := by
  refine ⟨by omega, by omega, fun h => ⟨by omega, by omega, by omega, by omega⟩, fun h => ⟨by omega, by omega, fun h2 => by omega⟩⟩
theorem whole_next {N rl al t n m : Nat} (hN : N = al + rl) (hn : n = al) (ht : t ≤ n) (hr : rl = m) (hm : 1 ≤ m) (h2 : N ≤ 200) : t + 1 ≤ N ∧ t ≤ 1000000 ∧ (rl : Int) = (m : Int) := by omega
theorem wrap_add1 {n : Nat} (h : n ≤ 1000000) : wrap64 ((n : Int) + 1) = (n : Int) + 1 := by unfold wrap64; omega

set_option maxHeartbeats 8000000 in
set_option maxRecDepth 100000 in
theorem whole_walk {w : World} {a0 : Option Addr} {c0 : Nat} {ps : List RowV} {pre delim : List UInt8} {most : Int} (hG : GlobL w) (h : RowsIn w (.slice a0 ps.length c0) ps) (hz : ∀ p ∈ ps, SizeOK p.d) (hk : ∀ p ∈ ps, p.d.key.length ≤ 140737488355320 ∧ (delim = [] ∨ p.d.key.length < 4294967280)) (_hl : ps.length ≤ 140737488351232)
    (hpre : pre.length ≤ 140737488355328) (hdel : delim.length ≤ 140737488355328) (hmo : -9223372036854775808 ≤ most ∧ most ≤ 9223372036854775807)
    (HSO : Hid (∀ W, Below w.heap.size w W → Calls Tryd.prog 9 #[.slice a0 ps.length c0] W (SrtOut ps W))) :
    Calls Tryd.prog 3 #[.slice a0 ps.length c0, .string ⟨pre.toArray⟩, .string ⟨delim.toArray⟩, .int .i64 most] w (fun e w' => e = .returned (.bool true) ∧ Below w.heap.size w w') := by
  have HG := Lib.hid hG
  have HR := Lib.hid h
  have HZ := Lib.hid (And.intro hz hk)
  have HPD := Lib.hid (And.intro hpre hdel)
  have HMO := Lib.hid hmo
  clear hG h hz hk hpre hdel hmo
  go_enter Tryd.func3, Tryd.ntmps3
  go_wp2_with fail
  refine (examples_walk w HG.out).mono ?_
  rintro e w1 ⟨rfl, hb1⟩
  have B1 := Lib.hid hb1
  clear hb1
  go_wp2_with fail
  refine (HSO.out _ B1.out).mono ?_
  intro e w2 hso
  obtain ⟨v, rfl, hr2, hb2, hm2⟩ := SrtOut.rows hso (HR.out.later B1.out)
  obtain ⟨av, cv, rfl, hln⟩ := hr2.form
  have B2 := Lib.hid (B1.out.trans (hb2.mono B1.out.size))
  have HLI := Lib.hid (sorted_list (pre := pre) (delim := delim) hr2 (HG.out.later B2.out) hm2 HZ.out.1 HZ.out.2 HPD.out.1 HPD.out.2)
  clear hso hr2 hb2 hm2
  obtain ⟨E, hE⟩ : ∃ E, ents .vers pre delim rowZ (sortedL (ps.map RowV.d)) = E := ⟨_, rfl⟩
  have hv := versions_any [] 0 1000 HLI.out
  rw [sortedV_d, page_whole, hE] at hv
  have HV := Lib.hid hv
  have HVX : Hid (∀ (W : World) (after : List UInt8) (seq most : Int), Below w2.heap.size w2 W → Calls Tryd.prog 10 #[.slice av (sortedV ps).length cv, .string ⟨pre.toArray⟩, .string ⟨delim.toArray⟩, .string ⟨after.toArray⟩, .int .i64 seq, .int .i64 most] W (PageOut (pageOf .vers after seq most E) W)) := fun W after seq most hW => by
    have := versions_any after seq most (HLI.out.later hW)
    rw [sortedV_d] at this
    unfold pageL at this
    rw [hE] at this
    exact this
  have hns := sortedV_len ps
  have HEL : Hid (E.length ≤ (sortedV ps).length) := by
    have := ents_len (k := .vers) (pre := pre) (delim := delim) (sortedL (ps.map RowV.d)) rowZ
    rw [hE, ← sortedV_d, List.length_map] at this
    exact this
  have HEZ : Hid (∀ e ∈ E, SizeOK e) := by
    show ∀ _, _
    rw [← hE]
    refine ents_size (fun r hr => ?_)
    rw [← sortedV_d] at hr
    obtain ⟨p, hp, rfl⟩ := List.mem_map.1 hr
    exact HLI.out.size p hp
  have HES : Hid (SortedE E) := by
    show SortedE E
    rw [← hE]
    exact sortedE (sortedL_ok _).1 (sortedL_ok _).2.1
  clear hE hv HSO HR HZ HLI HPD
  go_upto_if 22 with (fail)
  go_cut [3] (fun s3 wx => ∃ u : Int, s3 = .int .i64 u ∧ Hid (0 ≤ u ∧ u ≤ 9223372036854775807) ∧ wx = w2)
  case first =>
    have hmo := HMO.out
    by_cases hneg : most < 0
    · have hw1 : wrap64 (most + 1) = most + 1 := by unfold wrap64; omega
      have hw2 : wrap64 (-(most + 1)) = -(most + 1) := by unfold wrap64; omega
      have HN : Hid (0 ≤ -(most + 1) ∧ -(most + 1) ≤ 9223372036854775807) := by constructor <;> omega
      go_wp2_with fail
      go_meet
      case rel => exact ⟨_, by go_num, HN.out, rfl⟩
    · have HN : Hid (0 ≤ most ∧ most ≤ 9223372036854775807) := by constructor <;> omega
      go_wp2_with fail
      go_meet
      case rel => exact ⟨_, rfl, HN.out, rfl⟩
  case rest =>
    obtain ⟨u, rfl, HU, rfl⟩ := hcut
    obtain ⟨m, hm⟩ : ∃ m : Nat, (u.tmod 7) + 1 = m := ⟨((u.tmod 7) + 1).toNat, by have := HU.out; have := Int.tmod_nonneg 7 HU.out.1; omega⟩
    have hm1 : 1 ≤ m ∧ m ≤ 7 := by have := Int.tmod_nonneg 7 HU.out.1; have := Int.tmod_lt_of_pos u (show (0 : Int) < 7 by decide); omega
    have hwm : wrap64 (1 + u.tmod 7) = m := by unfold wrap64; omega
    have hwr : wrap64 (u.tmod 7) = u.tmod 7 := by unfold wrap64; omega
    go_wp2_with fail
    rw [show 1 + u.tmod 7 = (m : Int) by omega]
    refine (HV.out).mono ?_
    rintro e w3 ⟨vr, qs, rfl, hq, hr3, hb3⟩
    have hq' : qs.map RowV.d = E := hq
    have hlen : qs.length = E.length := by rw [← hq', List.length_map]
    have hpz : ∀ q ∈ qs, SizeOK q.d := fun q hqm => HEZ.out _ (by rw [← hq']; exact List.mem_map_of_mem hqm)
    obtain ⟨ar, cr, hvr⟩ := own_form hr3.own
    subst hvr
    have hel := HEL.out
    have HPR := Lib.hid (hr3.toIn (by omega) hpz)
    have HQZ := Lib.hid hpz
    have HQ : Hid (∀ (i : Nat) (q : RowV), qs[i]? = some q → E[i]? = some q.d) := fun i q hi => by rw [← hq', List.getElem?_map, hi]; rfl
    have HB3 := Lib.hid hb3
    have hm2 := hm1
    clear hq hq' hr3 hb3 hpz HV hwm hwr hm HMO hm1 HU
    rw [← hlen] at HEL hel
    have HLEN := Lib.hid hlen
    clear hlen
    rw [show (⟨E, false, [], 0⟩ : PageD).more = false from rfl, show (⟨E, false, [], 0⟩ : PageD).next = [] from rfl, show (⟨E, false, [], 0⟩ : PageD).entry = 0 from rfl]
    generalize hso : sortedV ps = so at *
    go_wp2_with (refine wpList_store_row (by rfl) 26 _ _ (by rfl) w3.heap.size #[.slice ar qs.length cr, .bool false, .string ⟨#[]⟩, .int .i64 0] (by rfl) (by rfl) 26 pageZC (by exact heap_alloc_new _ _) (by kernel_rfl) (by rfl) (by kernel_rfl) ?_; rw [setRow_alloc _ _ _ _ _ rfl])
    have HPG : Hid ((w3.alloc (.cells #[.slice ar qs.length cr, .bool false, .string ⟨#[]⟩, .int .i64 0] 26)).heap[w3.heap.size]? = some (.cells #[.slice ar qs.length cr, .bool false, .string ⟨#[]⟩, .int .i64 0] 26 (0, 0))) := heap_alloc_new _ _
    have B4 : Hid (Below w3.heap.size w3 (w3.alloc (.cells #[.slice ar qs.length cr, .bool false, .string ⟨#[]⟩, .int .i64 0] 26))) := below_alloc (Below.refl _ _) (Nat.le_refl _) _
    generalize w3.alloc (.cells #[.slice ar qs.length cr, .bool false, .string ⟨#[]⟩, .int .i64 0] 26) = W4 at *
    have HP4 := Lib.hid (HPR.out.later B4.out)
    have BW : Hid (Below wc.heap.size wc W4) := HB3.out.trans (B4.out.mono HB3.out.size)
    have B5 : Hid (Below w.heap.size w W4) := B2.out.trans (BW.out.mono B2.out.size)
    generalize hgp : w3.heap.size = gp at *
    have HPC0 : Hid (W4.cell? ⟨gp, 0, none⟩ = some (.slice ar qs.length cr)) := cell_of_heap HPG.out
    clear HPR HB3 B4 HPG hgp HEZ
    go_loopg [12, 13, 14, 15] (so.length + 1) (fun gg s12 s13 s14 s15 wr => ∃ (t n : Nat) (A B : List RowD) (after : List UInt8) (seq : Int), s15 = .int .i64 t ∧ s12 = .int .i64 n ∧ s13 = .string ⟨after.toArray⟩ ∧ s14 = .int .i64 seq ∧ so.length + 1 - t ≤ gg ∧ t ≤ n ∧ n = A.length ∧ Hid (E = A ++ B) ∧ Hid (StartAt A after seq) ∧ Hid (Below W4.heap.size W4 wr))
    case atStart => exact ⟨0, 0, [], E, [], 0, rfl, rfl, rfl, rfl, by omega, by omega, rfl, rfl, (.inl ⟨rfl, rfl, rfl⟩ : StartAt [] [] 0), Below.refl _ _⟩
    case round =>
      obtain ⟨t, n, A, B, after, seq, rfl, rfl, rfl, rfl, hgg, htn, hnA, HAB, HST, HB⟩ := hrel
      have hab : A.length + B.length = qs.length := by rw [HLEN.out, HAB.out, List.length_append]
      have htz : (t : Int) ≤ (so.length : Int) := by omega
      obtain ⟨pg, hpg⟩ : ∃ pg, pageOf .vers after seq (m : Int) E = pg := ⟨_, rfl⟩
      have HPGS : Hid (pg.rows = B.take pg.rows.length ∧ pg.rows.length ≤ B.length ∧ ((pg.more = false ∧ pg.rows.length = B.length) ∨ (pg.more = true ∧ pg.rows.length = m ∧ m < B.length ∧ StartAt (A ++ pg.rows) pg.next pg.entry))) := by
        have hs := HES.out
        rw [HAB.out] at hs hpg
        rcases page_turn hs HST.out hm2.1 (by omega) with ⟨h1, h2⟩ | ⟨h1, a', s', h2, h3⟩
        · rw [h2] at hpg
          subst hpg
          exact ⟨(List.take_length).symm, Nat.le_refl _, .inl ⟨rfl, rfl⟩⟩
        · rw [h2] at hpg
          subst hpg
          have hl : (B.take m).length = m := by rw [List.length_take]; omega
          exact ⟨by show B.take m = B.take (B.take m).length; rw [hl], by show (B.take m).length ≤ _; omega, .inr ⟨rfl, hl, h1, h3⟩⟩
      have HV := HVX.out wr after seq m (BW.out.trans (HB.out.mono BW.out.size))
      rw [hpg] at HV
      have HV := Lib.hid HV
      clear hpg
      go_wp2_with fail
      refine (HV.out).mono ?_
      rintro e w5 ⟨vr, rs, rfl, hq, hr5, hb5⟩
      have hrl : rs.length = pg.rows.length := by rw [← hq, List.length_map]
      have hpl : pg.rows.length ≤ B.length := HPGS.out.2.1
      have HNA := Lib.hid hnA
      clear hnA
      have HRS : Hid (∀ (i : Nat) (q : RowV), rs[i]? = some q → E[A.length + i]? = some q.d) := fun i q hi => by
        have h1 : pg.rows[i]? = some q.d := by rw [← hq, List.getElem?_map, hi]; rfl
        rw [HPGS.out.1] at h1
        have h2 := (List.getElem?_eq_some_iff.1 hi).1
        rw [List.getElem?_take, if_pos (by omega)] at h1
        rw [HAB.out, List.getElem?_append_right (by omega), Nat.add_sub_cancel_left]
        exact h1
      have hpz : ∀ q ∈ rs, SizeOK q.d := fun q hqm => by
        obtain ⟨i, hi⟩ := List.getElem?_of_mem hqm
        have h1 := HRS.out i q hi
        obtain ⟨q2, hq2⟩ : ∃ q2, qs[A.length + i]? = some q2 := ⟨_, List.getElem?_eq_getElem (by have := (List.getElem?_eq_some_iff.1 h1).1; have := HLEN.out; omega)⟩
        have h2 := HQ.out _ q2 hq2
        rw [h1] at h2
        injection h2 with h2
        rw [h2]
        exact HQZ.out q2 (List.mem_of_getElem? hq2)
      obtain ⟨ar2, cr2, hvr⟩ := own_form hr5.own
      subst hvr
      have HPR5 := Lib.hid (hr5.toIn (by omega) hpz)
      have HB5 : Hid (Below W4.heap.size W4 w5) := HB.out.trans (hb5.mono HB.out.size)
      clear hq hr5 hb5 hpz HV
      obtain ⟨mo, hmo⟩ : ∃ mo, pg.more = mo := ⟨_, rfl⟩
      obtain ⟨nx, hnx⟩ : ∃ nx, pg.next = nx := ⟨_, rfl⟩
      obtain ⟨en, hen⟩ : ∃ en, pg.entry = en := ⟨_, rfl⟩
      rw [hmo, hnx, hen]
      rw [hmo, hnx, hen, ← hrl] at HPGS
      rw [← hrl] at hpl
      have HRL := Lib.hid hrl
      have HAL := Lib.hid hab
      clear hmo hnx hen hrl hab
      go_wp2_with (refine wpList_store_row (by rfl) 26 _ _ (by rfl) w5.heap.size #[.slice ar2 rs.length cr2, .bool mo, .string ⟨nx.toArray⟩, .int .i64 en] (by rfl) (by rfl) 26 pageZC (by exact heap_alloc_new _ _) (by kernel_rfl) (by rfl) (by kernel_rfl) ?_; rw [setRow_alloc _ _ _ _ _ rfl])
      have HPG : Hid ((w5.alloc (.cells #[.slice ar2 rs.length cr2, .bool mo, .string ⟨nx.toArray⟩, .int .i64 en] 26)).heap[w5.heap.size]? = some (.cells #[.slice ar2 rs.length cr2, .bool mo, .string ⟨nx.toArray⟩, .int .i64 en] 26 (0, 0))) := heap_alloc_new _ _
      have B6 : Hid (Below w5.heap.size w5 (w5.alloc (.cells #[.slice ar2 rs.length cr2, .bool mo, .string ⟨nx.toArray⟩, .int .i64 en] 26))) := below_alloc (Below.refl _ _) (Nat.le_refl _) _
      generalize w5.alloc (.cells #[.slice ar2 rs.length cr2, .bool mo, .string ⟨nx.toArray⟩, .int .i64 en] 26) = W6 at *
      have HR6 := Lib.hid (HPR5.out.later B6.out)
      have HB6 : Hid (Below W4.heap.size W4 W6) := HB5.out.trans (B6.out.mono HB5.out.size)
      generalize hg5 : w5.heap.size = g5 at *
      have HN0 : Hid (W6.cell? ⟨g5, 0, none⟩ = some (.slice ar2 rs.length cr2)) := cell_of_heap HPG.out
      have HN1 : Hid (W6.cell? ⟨g5, 1, none⟩ = some (.bool mo)) := cell_of_heap HPG.out
      have HN2 : Hid (W6.cell? ⟨g5, 2, none⟩ = some (.string ⟨nx.toArray⟩)) := cell_of_heap HPG.out
      have HN3 : Hid (W6.cell? ⟨g5, 3, none⟩ = some (.int .i64 en)) := cell_of_heap HPG.out
      clear HPR5 HB5 B6 HPG hg5
      go_loopg [12, 17] rs.length (fun g2 s12 s17 w7 => ∃ i N : Nat, i ≤ rs.length ∧ rs.length - i ≤ g2 ∧ Hid (N = A.length + i) ∧ s17 = .int .i64 i ∧ s12 = .int .i64 N ∧ Hid (Below W6.heap.size W6 w7))
      case atStart => exact ⟨0, n, Nat.zero_le _, by omega, HNA.out.trans (Nat.add_zero _).symm, rfl, rfl, Below.refl _ _⟩
      case round =>
        obtain ⟨i, N, hi, hg2, HN, rfl, rfl, HB7⟩ := hrel
        have hN := HN.out
        have hab := HAL.out
        have hnA := HNA.out
        obtain ⟨hNb, hib, hyes, hno⟩ := whole_nums hN hi hpl hab hel hns
        have HY := Lib.hid hyes
        have HNO := Lib.hid hno
        clear hyes hno
        have HW1 : Hid (wrap64 ((i : Int) + 1) = (i : Int) + 1) := wrap_add1 (Nat.le_trans hib (by decide))
        have HW2 : Hid (wrap64 ((N : Int) + 1) = (N : Int) + 1) := wrap_add1 (Nat.le_trans hNb (by decide))
        have hn0 := cell_later HB7.out HN0.out
        have hn1 := cell_later HB7.out HN1.out
        have hn2 := cell_later HB7.out HN2.out
        have hn3 := cell_later HB7.out HN3.out
        have hp0 := cell_later (HB6.out.trans (HB7.out.mono HB6.out.size)) HPC0.out
        by_cases hlt : i < rs.length
        · obtain ⟨hiz, hNz, hNz2, hNq⟩ := HY.out hlt
          obtain ⟨q, hiq⟩ : ∃ q, rs[i]? = some q := ⟨_, List.getElem?_eq_getElem hlt⟩
          obtain ⟨s, his⟩ : ∃ s, qs[N]? = some s := ⟨_, List.getElem?_eq_getElem hNq⟩
          have hqs : q.d = s.d := by
            have h1 := HRS.out i q hiq
            have h2 := HQ.out N s his
            rw [hN, h1] at h2
            exact Option.some.inj h2
          obtain ⟨b1, o1, rfl, hcq, -⟩ := (HR6.out.later HB7.out).at hiq
          obtain ⟨b2, o2, rfl, hcs, -⟩ := (HP4.out.later (HB6.out.trans (HB7.out.mono HB6.out.size))).at his
          have HC1 : Hid (wr.rangeAt b1 (o1 + i * 18) q.cells) := hcq
          have HC2 : Hid (wr.rangeAt b2 (o2 + N * 18) s.cells) := hcs
          have HSE : Hid (sameE q.d s.d = true) := by show _ = _; rw [hqs]; exact sameE_refl _
          clear hcq hcs hiq his hqs hN hab hnA
          have HN1 : Hid (N + 1 = A.length + (i + 1)) := by show _ = _; rw [HN.out]; rfl
          as_aux_lemma =>
            go_upto_region 17 with (fail)
            refine wp_region_held_drew (S := (fun W : World => Below wr.heap.size wr W)) (by kernel_rfl) (Below.refl _ _).drew (fun hS0 => ?_)
            refine wpAnyH_take (i := 0) (oi := { dst := some 53, op := _, type := _, pos := _, after := _, guard := _ }) (v := ?_) rfl (by kernel_rfl) (by kernel_rfl) (by kernel_rfl) (fun _ _ _ h => h) (Or.inl ⟨by kernel_rfl, ?_⟩) (by assumption) ?_
            rotate_left
            · (intro w hSw; (try dsimp only at hSw); go_simp); all_goals (with_reducible rfl)
            try simp only [Act.put, List.setIfInBounds_toArray, List.set_cons_zero, List.set_cons_succ]
            refine wpAnyH_take (i := 1) (oi := { dst := some 54, op := _, type := _, pos := _, after := _, guard := _ }) (v := ?_) rfl (by kernel_rfl) (by kernel_rfl) (by kernel_rfl) (fun _ _ _ h => h) (Or.inl ⟨by kernel_rfl, ?_⟩) (by assumption) ?_
            rotate_left
            · (intro w hSw; (try dsimp only at hSw); go_simp); all_goals (with_reducible rfl)
            try simp only [Act.put, List.setIfInBounds_toArray, List.set_cons_zero, List.set_cons_succ]
            refine wpAnyH_take (i := 2) (oi := { dst := some 55, op := _, type := _, pos := _, after := _, guard := _ }) (v := ?_) rfl (by kernel_rfl) (by kernel_rfl) (by kernel_rfl) (fun _ _ _ h => h) (Or.inl ⟨by kernel_rfl, ?_⟩) (by assumption) ?_
            rotate_left
            · (intro w hSw; (try dsimp only at hSw); have k0 := cell_later hSw hn0; have k1 := cell_later hSw hp0; go_simp); all_goals (with_reducible rfl)
            try simp only [Act.put, List.setIfInBounds_toArray, List.set_cons_zero, List.set_cons_succ]
            refine wpAnyH_take (i := 3) (oi := { dst := some 56, op := _, type := _, pos := _, after := _, guard := _ }) (v := ?_) rfl (by kernel_rfl) (by kernel_rfl) (by kernel_rfl) (fun _ _ _ h => h) (Or.inl ⟨by kernel_rfl, ?_⟩) (by assumption) ?_
            rotate_left
            · (intro w hSw; (try dsimp only at hSw); go_simp); all_goals (with_reducible rfl)
            try simp only [Act.put, List.setIfInBounds_toArray, List.set_cons_zero, List.set_cons_succ]
            refine wpAnyH_take (i := 4) (oi := { dst := some 57, op := _, type := _, pos := _, after := _, guard := _ }) (v := ?_) rfl (by kernel_rfl) (by kernel_rfl) (by kernel_rfl) (fun _ _ _ h => h) (Or.inl ⟨by kernel_rfl, ?_⟩) (by assumption) ?_
            rotate_left
            · (intro w hSw; (try dsimp only at hSw); go_simp); all_goals (with_reducible rfl)
            try simp only [Act.put, List.setIfInBounds_toArray, List.set_cons_zero, List.set_cons_succ]
            refine wpAnyH_take (i := 5) (oi := { dst := some 58, op := _, type := _, pos := _, after := _, guard := _ }) (v := ?_) rfl (by kernel_rfl) (by kernel_rfl) (by kernel_rfl) (fun _ _ _ h => h) (Or.inl ⟨by kernel_rfl, ?_⟩) (by assumption) ?_
            rotate_left
            · (intro w hSw; (try dsimp only at hSw); go_simp); all_goals (with_reducible rfl)
            try simp only [Act.put, List.setIfInBounds_toArray, List.set_cons_zero, List.set_cons_succ]
            refine wpAnyH_take (i := 6) (oi := { dst := some 59, op := _, type := _, pos := _, after := _, guard := _ }) (v := ?_) rfl (by kernel_rfl) (by kernel_rfl) (by kernel_rfl) (fun _ _ _ h => h) (Or.inl ⟨by kernel_rfl, ?_⟩) (by assumption) ?_
            rotate_left
            · (intro w hSw; (try dsimp only at hSw); go_simp); all_goals (with_reducible rfl)
            try simp only [Act.put, List.setIfInBounds_toArray, List.set_cons_zero, List.set_cons_succ]
            refine wpAnyH_take (i := 7) (oi := { dst := some 60, op := _, type := _, pos := _, after := _, guard := _ }) (v := ?_) rfl (by kernel_rfl) (by kernel_rfl) (by kernel_rfl) (fun _ _ _ h => h) (Or.inl ⟨by kernel_rfl, ?_⟩) (by assumption) ?_
            rotate_left
            · (intro w hSw; (try dsimp only at hSw); have k0 := cell_later hSw hn0; have k1 := cell_later hSw hp0; go_simp); all_goals (with_reducible rfl)
            try simp only [Act.put, List.setIfInBounds_toArray, List.set_cons_zero, List.set_cons_succ]
            refine wpAnyH_take (i := 8) (oi := { dst := some 61, op := _, type := _, pos := _, after := _, guard := _ }) (v := ?_) rfl (by kernel_rfl) (by kernel_rfl) (by kernel_rfl) (fun _ _ _ h => h) (Or.inl ⟨by kernel_rfl, ?_⟩) (by assumption) ?_
            rotate_left
            · (intro w hSw; (try dsimp only at hSw); go_simp); all_goals (with_reducible rfl)
            try simp only [Act.put, List.setIfInBounds_toArray, List.set_cons_zero, List.set_cons_succ]
            refine wpAnyH_take (i := 9) (oi := { dst := some 62, op := _, type := _, pos := _, after := _, guard := _ }) (v := ?_) rfl (by kernel_rfl) (by kernel_rfl) (by kernel_rfl) (fun _ _ _ h => h) (Or.inl ⟨by kernel_rfl, ?_⟩) (by assumption) ?_
            rotate_left
            · (intro w hSw; (try dsimp only at hSw); go_simp); all_goals (with_reducible rfl)
            try simp only [Act.put, List.setIfInBounds_toArray, List.set_cons_zero, List.set_cons_succ]
            refine wpAnyH_take (i := 10) (oi := { dst := some 63, op := _, type := _, pos := _, after := _, guard := _ }) (v := .agg (q.cells).toArray) rfl (by kernel_rfl) (by kernel_rfl) (by kernel_rfl) (fun _ _ _ h => h) (yieldsIf_load_mid (by kernel_rfl) 36 _ (by rfl) b1 (o1 + i * 18) (by rfl) (q.cells) _ (fun w hSw => by (try dsimp only at hSw); exact fun j u hj => cell_later hSw (HC1.out j u hj)) Tryd.underlying36 rfl (by rfl)) (by assumption) ?_
            try simp only [Act.put, List.setIfInBounds_toArray, List.set_cons_zero, List.set_cons_succ]
            refine wpAnyH_take (i := 11) (oi := { dst := some 64, op := _, type := _, pos := _, after := _, guard := _ }) (v := ?_) rfl (by kernel_rfl) (by kernel_rfl) (by kernel_rfl) (fun _ _ _ h => h) (Or.inl ⟨by kernel_rfl, ?_⟩) (by assumption) ?_
            rotate_left
            · (intro w hSw; (try dsimp only at hSw); go_simp); all_goals (with_reducible rfl)
            try simp only [Act.put, List.setIfInBounds_toArray, List.set_cons_zero, List.set_cons_succ]
            refine wpAnyH_take (i := 12) (oi := { dst := some 65, op := _, type := _, pos := _, after := _, guard := _ }) (v := ?_) rfl (by kernel_rfl) (by kernel_rfl) (by kernel_rfl) (fun _ _ _ h => h) (Or.inl ⟨by kernel_rfl, ?_⟩) (by assumption) ?_
            rotate_left
            · (intro w hSw; (try dsimp only at hSw); have k0 := cell_later hSw hn0; have k1 := cell_later hSw hp0; go_simp); all_goals (with_reducible rfl)
            try simp only [Act.put, List.setIfInBounds_toArray, List.set_cons_zero, List.set_cons_succ]
            refine wpAnyH_take (i := 13) (oi := { dst := some 66, op := _, type := _, pos := _, after := _, guard := _ }) (v := ?_) rfl (by kernel_rfl) (by kernel_rfl) (by kernel_rfl) (fun _ _ _ h => h) (Or.inl ⟨by kernel_rfl, ?_⟩) (by assumption) ?_
            rotate_left
            · (intro w hSw; (try dsimp only at hSw); go_simp); all_goals (with_reducible rfl)
            try simp only [Act.put, List.setIfInBounds_toArray, List.set_cons_zero, List.set_cons_succ]
            refine wpAnyH_take (i := 14) (oi := { dst := some 67, op := _, type := _, pos := _, after := _, guard := _ }) (v := ?_) rfl (by kernel_rfl) (by kernel_rfl) (by kernel_rfl) (fun _ _ _ h => h) (Or.inl ⟨by kernel_rfl, ?_⟩) (by assumption) ?_
            rotate_left
            · (intro w hSw; (try dsimp only at hSw); go_simp); all_goals (with_reducible rfl)
            try simp only [Act.put, List.setIfInBounds_toArray, List.set_cons_zero, List.set_cons_succ]
            refine wpAnyH_take (i := 15) (oi := { dst := some 68, op := _, type := _, pos := _, after := _, guard := _ }) (v := .agg (s.cells).toArray) rfl (by kernel_rfl) (by kernel_rfl) (by kernel_rfl) (fun _ _ _ h => h) (yieldsIf_load_mid (by kernel_rfl) 36 _ (by rfl) b2 (o2 + N * 18) (by rfl) (s.cells) _ (fun w hSw => by (try dsimp only at hSw); exact fun j u hj => cell_later hSw (HC2.out j u hj)) Tryd.underlying36 rfl (by rfl)) (by assumption) ?_
            try simp only [Act.put, List.setIfInBounds_toArray, List.set_cons_zero, List.set_cons_succ]
            refine wpAnyH_ready (rs := [16]) (by kernel_rfl) (by simp) ?_
            refine (AllReadyH.cons (o := { dst := some 69, op := _, type := _, pos := _, after := _, guard := _ }) rfl (fun K hK => ?_) AllReadyH.nil)
            rw [if_pos (by kernel_rfl)]
            refine wp_call_go Tryd.func11 (by kernel_rfl) (by kernel_rfl) (xs := [.tmp 63, .tmp 68]) (by rfl) (vs := [.agg q.cells.toArray, .agg s.cells.toArray]) (same_any q s _) (by rfl) ?_
            rintro e w' ⟨rfl, hb⟩
            rw [HSE.out]
            refine ⟨_, rfl, ?_⟩
            refine hK.out _ w' (hS0.trans (hb.mono hS0.size)) (fun hSe => ?_)
            clear hK K
            try simp only [Act.put, List.setIfInBounds_toArray, List.set_cons_zero, List.set_cons_succ]
            refine wpAnyH_take (i := 17) (oi := { dst := some 70, op := _, type := _, pos := _, after := _, guard := _ }) (v := ?_) rfl (by kernel_rfl) (by kernel_rfl) (by kernel_rfl) (fun _ _ _ h => h) (Or.inl ⟨by kernel_rfl, ?_⟩) (by assumption) ?_
            rotate_left
            · (intro w hSw; (try dsimp only at hSw); go_simp); all_goals (with_reducible rfl)
            try simp only [Act.put, List.setIfInBounds_toArray, List.set_cons_zero, List.set_cons_succ]
            refine wpAnyH_take (i := 18) (oi := { dst := some 71, op := _, type := _, pos := _, after := _, guard := _ }) (v := ?_) rfl (by kernel_rfl) (by kernel_rfl) (by kernel_rfl) (fun _ _ _ h => h) (Or.inl ⟨by kernel_rfl, ?_⟩) (by assumption) ?_
            rotate_left
            · (intro w hSw; (try dsimp only at hSw); go_simp); all_goals (with_reducible rfl)
            try simp only [Act.put, List.setIfInBounds_toArray, List.set_cons_zero, List.set_cons_succ]
            refine wpAnyH_done (by kernel_rfl) ?_ _
            have BY := Lib.hid (HB7.out.trans (hSe.mono HB7.out.size))
            clear hSe hS0
            have hw1 := HW1.out
            have hw2 := HW2.out
            as_aux_lemma =>
              go_wp2_with fail
              go_roundg (rs.length - (i + 1))
              case measure => clear hw1 hw2; exact Nat.lt_of_lt_of_le (Nat.sub_lt_sub_left hlt (Nat.lt_succ_self _)) hg2
              case rel => clear hw1 hw2; exact ⟨i + 1, N + 1, hlt, Nat.le_refl _, HN1.out, by go_num, by go_num, BY⟩
        · obtain ⟨hiz, hir, hNe0⟩ := HNO.out hlt
          subst hir
          have HNE := Lib.hid hNe0
          clear hNe0
          rcases HPGS.out.2.2 with ⟨hm, hl2⟩ | ⟨hm, hl2, hl3, hst⟩
          · subst hm
            have BE := Lib.hid (B5.out.trans ((HB6.out.trans (HB7.out.mono HB6.out.size)).mono B5.out.size))
            have hNe : (N : Int) = (qs.length : Int) := HNE.out hl2
            clear hN hab hnA
            as_aux_lemma =>
              go_wp2_with fail
              go_ret
              exact ⟨rfl, BE.out⟩
          · subst hm
            have BE := Lib.hid (HB6.out.trans (HB7.out.mono HB6.out.size))
            obtain ⟨htN, ht6, hle⟩ := whole_next hN hnA htn hl2 hm2.1 hNb
            have hwt : wrap64 ((t : Int) + 1) = (t : Int) + 1 := wrap_add1 ht6
            have HAB2 : Hid (E = (A ++ pg.rows) ++ B.drop pg.rows.length) := by
              show _ = _
              conv => lhs; rw [HAB.out]
              conv => rhs; rw [HPGS.out.1]
              rw [List.append_assoc]
              congr 1
              rw [show (List.take rs.length B).length = rs.length by rw [List.length_take]; exact Nat.min_eq_left hpl, List.take_append_drop]
            have HST2 := Lib.hid hst
            have HNN : Hid (N = (A ++ pg.rows).length) := by show _ = _; rw [List.length_append, ← HRL.out]; exact hN
            clear hN hab hnA
            as_aux_lemma =>
              go_wp2_with fail
              go_roundg (so.length + 1 - (t + 1))
              case measure => clear hwt; omega
              case rel => clear hwt; exact ⟨t + 1, N, A ++ pg.rows, B.drop pg.rows.length, nx, en, by go_num, rfl, rfl, rfl, Nat.le_refl _, htN, HNN.out, HAB2, HST2, BE⟩
end Go.Proofs.YtgklbmcnpnmkkaaDoor
