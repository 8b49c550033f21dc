/-
  ListingRises: the walk. (Printed by wip/gen/lsrises.py.)
-/
import Derived.Test.YtgklbmcnpnmkkaaDoorLsRisesP
import Derived.Test.YtgklbmcnpnmkkaaDoorLsEx
import Derived.Test.YtgklbmcnpnmkkaaDoorWpCall
namespace Go.Proofs.YtgklbmcnpnmkkaaDoor
open Go.RowKit Go.Lib

theorem rise_extract {pre rest : List UInt8} {n m : Nat} : (⟨(pre ++ rest).toArray⟩ : ByteArray).extract (pre.length + n) (pre.length + n + m) = ⟨((rest.drop n).take m).toArray⟩ := by
  apply ByteArray.ext
  have h1 := Lib.extract_data (⟨(pre ++ rest).toArray⟩ : ByteArray) (pre.length + n) (pre.length + n + m)
  have h2 : (⟨(pre ++ rest).toArray⟩ : ByteArray).data.toList = pre ++ rest := rfl
  rw [h2, show pre.length + n + m - (pre.length + n) = m from by omega, List.drop_append, List.drop_eq_nil_of_le (by omega), List.nil_append, Nat.add_sub_cancel_left] at h1
  exact Array.ext' h1
theorem rise_nums {P Q pl n rl tl kl : Nat} (hP : P = pl + n) (hQ : Q = P + (tl + 1)) (hn : n < rl + 1 - (tl + 1)) (hk : kl = pl + rl) (hm : kl ≤ 140737488355328) (hdl : tl + 1 ≤ 140737488355328) :
    wrap64 ((P : Int) + ((tl : Int) + 1)) = (Q : Int) ∧ (Q : Int) ≤ (kl : Int) ∧ wrap64 ((P : Int) + 1) = (P : Int) + 1 ∧ (P : Int) ≤ (Q : Int) ∧ Q ≤ kl ∧ P ≤ Q := by
  unfold wrap64
  refine ⟨by omega, by omega, by omega, by omega, by omega, by omega⟩
theorem rise_stop {P Q pl n rl tl kl : Nat} (hP : P = pl + n) (hQ : Q = P + (tl + 1)) (hn : ¬ n < rl + 1 - (tl + 1)) (hn2 : n ≤ rl + 1 - (tl + 1)) (hk : kl = pl + rl) (hm : kl ≤ 140737488355328) (hdl : tl + 1 ≤ 140737488355328) :
    wrap64 ((P : Int) + ((tl : Int) + 1)) = (Q : Int) ∧ ¬ (Q : Int) ≤ (kl : Int) := by
  unfold wrap64
  refine ⟨by omega, by omega⟩
theorem rise_meas {M n g : Nat} (hn : n < M) (hg : M - n ≤ g) : M - (n + 1) < g := by omega
theorem val_succ {k : Nat} {x : Int} (h : x = (k : Int) + 1) : Value.int .i64 x = Value.int .i64 ((k + 1 : Nat) : Int) := by rw [h]; rfl

set_option maxHeartbeats 8000000 in
set_option maxRecDepth 100000 in
theorem rises_walk {w : World} {a0 : Option Addr} {c0 : Nat} {ps : List RowV} {pre delim after : List UInt8} {most : Int} (hG : GlobL w) (h : RowsIn w (.slice a0 ps.length c0) ps) (hz : ∀ p ∈ ps, SizeOK p.d) (hk : ∀ p ∈ ps, p.d.key.length ≤ 140737488355320 ∧ (delim = [] ∨ p.d.key.length < 4294967280)) (_hl : ps.length ≤ 140737488351232)
    (hpre : pre.length ≤ 140737488355328) (hdel : delim.length ≤ 140737488355328)
    (HSO : Hid (∀ W, Below w.heap.size w W → Calls Tryd.prog 9 #[.slice a0 ps.length c0] W (SrtOut ps W))) :
    Calls Tryd.prog 4 #[.slice a0 ps.length c0, .string ⟨pre.toArray⟩, .string ⟨delim.toArray⟩, .string ⟨after.toArray⟩, .int .i64 most] w (fun e w' => e = .returned (.bool true) ∧ Below w.heap.size w w') := by
  have HG := Lib.hid hG
  have HR := Lib.hid h
  have HZ := Lib.hid (And.intro hz hk)
  have HPD := Lib.hid (And.intro hpre hdel)
  clear hG h hz hk hpre hdel
  go_enter Tryd.func4, Tryd.ntmps4
  go_wp2_with fail
  refine (examples_walk w HG.out).mono ?_
  rintro e w1 ⟨rfl, hb1⟩
  have B1 := Lib.hid hb1
  clear hb1
  go_wp2_with fail
  refine (HSO.out _ B1.out).mono ?_
  intro e w2 hso
  obtain ⟨v, rfl, hr2, hb2, hm2⟩ := SrtOut.rows hso (HR.out.later B1.out)
  obtain ⟨av, cv, rfl, hln⟩ := hr2.form
  have B2 := Lib.hid (B1.out.trans (hb2.mono B1.out.size))
  have HLI := Lib.hid (sorted_list (pre := pre) (delim := delim) hr2 (HG.out.later B2.out) hm2 HZ.out.1 HZ.out.2 HPD.out.1 HPD.out.2)
  clear hso hr2 hb2 hm2
  have hv := objects_any after most HLI.out
  have HZP : Hid (∀ e ∈ (pageL .objs ((sortedV ps).map RowV.d) pre delim after 0 most).rows, SizeOK e) := objs_size fun r hr => by
    obtain ⟨p, hp, rfl⟩ := List.mem_map.1 hr
    exact HLI.out.size p hp
  have HRA : Hid (∀ e ∈ (pageL .objs ((sortedV ps).map RowV.d) pre delim after 0 most).rows, ∃ rest, RiseAt pre delim after e rest) := fun e he => rise_at he
  have HRN : Hid (∀ i a b, (pageL .objs ((sortedV ps).map RowV.d) pre delim after 0 most).rows[i]? = some a → (pageL .objs ((sortedV ps).map RowV.d) pre delim after 0 most).rows[i + 1]? = some b → KeyLt a b) := fun i a b ha hb => by
    rw [sortedV_d] at ha hb
    exact rise_next (sortedL_ok _).1 (sortedL_ok _).2.1 ha hb
  have HKX : Hid (∀ e ∈ (pageL .objs ((sortedV ps).map RowV.d) pre delim after 0 most).rows, e.key.length ≤ 140737488355328) := objs_key fun r hr => by
    obtain ⟨p, hp, rfl⟩ := List.mem_map.1 hr
    exact (HLI.out.key p hp).1
  have HLN := Lib.hid (objs_len (l := (sortedV ps).map RowV.d) (pre := pre) (delim := delim) (after := after) (most := most))
  have HMR := Lib.hid (objs_more (l := (sortedV ps).map RowV.d) (pre := pre) (delim := delim) (after := after) (most := most))
  generalize pageL .objs ((sortedV ps).map RowV.d) pre delim after 0 most = pg at *
  have HV := Lib.hid hv
  clear hv HSO HR HZ HLI
  go_wp2_with fail
  refine (HV.out).mono ?_
  rintro e w3 ⟨vr, qs, rfl, hq, hr3, hb3⟩
  have hlen : qs.length = pg.rows.length := by rw [← hq, List.length_map]
  have hpz : ∀ q ∈ qs, SizeOK q.d := fun q hqm => HZP.out _ (by rw [← hq]; exact List.mem_map_of_mem hqm)
  obtain ⟨ar, cr, hvr⟩ := own_form hr3.own
  subst hvr
  have hl1 := HLN.out.1
  have HPR := Lib.hid (hr3.toIn (by omega) hpz)
  have B3 := Lib.hid (B2.out.trans (hb3.mono B2.out.size))
  have HQ : Hid (∀ (i : Nat) (q : RowV), qs[i]? = some q → pg.rows[i]? = some q.d) := fun i q hi => by rw [← hq, List.getElem?_map, hi]; rfl
  have HKM : Hid (∀ q ∈ qs, q.d.key.length ≤ 140737488355328) := fun q hqm => HKX.out _ (by rw [← hq]; exact List.mem_map_of_mem hqm)
  clear hq hr3 hb3 hpz HV
  rw [← hlen] at HLN HMR hl1
  have HLEN := Lib.hid hlen
  clear hlen
  go_upto_region 3 with (refine wpList_store_row (by rfl) 26 _ _ (by rfl) w3.heap.size #[.slice ar qs.length cr, .bool pg.more, .string ⟨pg.next.toArray⟩, .int .i64 pg.entry] (by rfl) (by rfl) 26 pageZC (by exact heap_alloc_new _ _) (by kernel_rfl) (by rfl) (by kernel_rfl) ?_; rw [setRow_alloc _ _ _ _ _ rfl])
  have HPG : Hid ((w3.alloc (.cells #[.slice ar qs.length cr, .bool pg.more, .string ⟨pg.next.toArray⟩, .int .i64 pg.entry] 26)).heap[w3.heap.size]? = some (.cells #[.slice ar qs.length cr, .bool pg.more, .string ⟨pg.next.toArray⟩, .int .i64 pg.entry] 26 (0, 0))) := heap_alloc_new _ _
  have B4 : Hid (Below w3.heap.size w3 (w3.alloc (.cells #[.slice ar qs.length cr, .bool pg.more, .string ⟨pg.next.toArray⟩, .int .i64 pg.entry] 26))) := below_alloc (Below.refl _ _) (Nat.le_refl _) _
  generalize w3.alloc (.cells #[.slice ar qs.length cr, .bool pg.more, .string ⟨pg.next.toArray⟩, .int .i64 pg.entry] 26) = W4 at *
  have HP4 := Lib.hid (HPR.out.later B4.out)
  have B5 := Lib.hid (B3.out.trans (B4.out.mono B3.out.size))
  generalize hgp : w3.heap.size = gp at *
  have HPC0 : Hid (W4.cell? ⟨gp, 0, none⟩ = some (.slice ar qs.length cr)) := cell_of_heap HPG.out
  have HPC1 : Hid (W4.cell? ⟨gp, 1, none⟩ = some (.bool pg.more)) := cell_of_heap HPG.out
  clear HPR B3 B4 HPG hgp
  simp only [Act.put]
  go_cut [49] (fun s49 wx => s49 = .bool false ∧ wx = W4)
  case first =>
    have hp0 := HPC0.out
    have h1000 : ¬ 1000 < (qs.length : Int) := by have := HLN.out.1; omega
    cases hmr : pg.more with
    | true =>
      rw [hmr] at HPC1
      have hp1 := HPC1.out
      have hne : ((qs.length : Int) == 0) = false := by have := HMR.out hmr; simpa using this
      by_cases hm0 : 0 ≤ most
      · have hle : ¬ most < (qs.length : Int) := by have := HLN.out.2 hm0; omega
        as_aux_lemma =>
          go_wp2_with fail
          go_meet
          case rel => exact ⟨rfl, rfl⟩
      · go_wp2_with fail
        go_meet
        case rel => exact ⟨rfl, rfl⟩
    | false =>
      rw [hmr] at HPC1
      have hp1 := HPC1.out
      by_cases hm0 : 0 ≤ most
      · have hle : ¬ most < (qs.length : Int) := by have := HLN.out.2 hm0; omega
        as_aux_lemma =>
          go_wp2_with fail
          go_meet
          case rel => exact ⟨rfl, rfl⟩
      · go_wp2_with fail
        go_meet
        case rel => exact ⟨rfl, rfl⟩
  case rest =>
    obtain ⟨rfl, rfl⟩ := hcut
    go_wp2_with fail
    go_loopg [13] qs.length (fun gg s13 wr => ∃ i : Nat, i ≤ qs.length ∧ qs.length - i ≤ gg ∧ s13 = .int .i64 i ∧ wr = wc)
    case atStart => exact ⟨0, Nat.zero_le _, by omega, rfl, rfl⟩
    case round =>
      obtain ⟨i, hi, hg, rfl, rfl⟩ := hrel
      by_cases hlt : i < qs.length
      · have hiz : (i : Int) < (qs.length : Int) := by omega
        have HW1 : Hid (wrap64 ((i : Int) + 1) = (i : Int) + 1) := by show _ = _; unfold wrap64; omega
        obtain ⟨q, hiq⟩ : ∃ q, qs[i]? = some q := ⟨_, List.getElem?_eq_getElem hlt⟩
        have hqe := HQ.out i q hiq
        obtain ⟨rest, hra⟩ := HRA.out _ (List.mem_of_getElem? hqe)
        have HRI := Lib.hid hra
        have HQE := Lib.hid hqe
        obtain ⟨b, off, rfl, hcq, -⟩ := HP4.out.at hiq
        have ck0 : wr.cell? ⟨b, off + i * 18, none⟩ = some (.string ⟨q.d.key.toArray⟩) := hcq 0 _ rfl
        have ck1 : wr.cell? ⟨b, off + i * 18 + 1, none⟩ = some (.bool q.d.common) := hcq 1 _ rfl
        have hp0 := HPC0.out
        have hp1 := HPC1.out
        have hkl : ¬ (q.d.key.length : Int) < (pre.length : Int) := by rw [hra.key, List.length_append]; omega
        have hkz : (pre.length : Int) ≤ (q.d.key.length : Int) := by omega
        have hx : (⟨q.d.key.toArray⟩ : ByteArray).extract 0 pre.length = ⟨pre.toArray⟩ := by rw [hra.key, extract_takeL, List.take_left']; rfl
        have hby := hra.beyond
        have hby2 := less_asymm hby
        have hby3 : (q.d.key == after) = false := beq_eq_false_iff_ne.2 (less_ne hby).symm
        have hby4 : ¬ q.d.key = after := (less_ne hby).symm
        have hiq0 := Lib.hid hiq
        clear hra hcq hqe
        go_upto_region 9 with (fail)
        go_cut [114] (fun s114 wx => s114 = .bool false ∧ wx = wr)
        case first =>
          by_cases hi0 : i = 0
          · subst hi0
            as_aux_lemma =>
              go_wp2_with fail
              go_meet
              case rel => exact ⟨rfl, rfl⟩
          · obtain ⟨j, rfl⟩ : ∃ j, i = j + 1 := ⟨i - 1, by omega⟩
            obtain ⟨q0, hjq⟩ : ∃ q0, qs[j]? = some q0 := ⟨_, List.getElem?_eq_getElem (by omega)⟩
            have hkl0 := HRN.out j q0.d q.d (HQ.out j q0 hjq) HQE.out
            obtain ⟨b', off', he, hcq, -⟩ := HP4.out.at hjq
            injection he with he
            injection he with he1 he2 he3
            subst he1 he2
            have cj0 : wr.cell? ⟨b, off + j * 18, none⟩ = some (.string ⟨q0.d.key.toArray⟩) := hcq 0 _ rfl
            have hjz : (j : Int) < (qs.length : Int) := by omega
            have hpos : 0 < ((j + 1 : Nat) : Int) := by omega
            have hwj : wrap64 (((j + 1 : Nat) : Int) - 1) = (j : Int) := by unfold wrap64; omega
            clear hcq hjq
            rcases hkl0 with hl0 | ⟨hl0, hl1⟩
            · have hl2 := less_asymm hl0
              have hl3 : (q.d.key == q0.d.key) = false := beq_eq_false_iff_ne.2 (less_ne hl0).symm
              have hl4 : ¬ q.d.key = q0.d.key := (less_ne hl0).symm
              generalize q0.d.key = k0 at *
              generalize q.d.key = k1 at *
              as_aux_lemma =>
                go_wp2_with fail
                go_meet
                case rel => exact ⟨rfl, rfl⟩
            · rw [hl0] at cj0
              rw [hl1] at ck1
              have hl2 := less_irrefl q.d.key
              clear hl0
              generalize q.d.key = k1 at *
              as_aux_lemma =>
                go_wp2_with fail
                go_meet
                case rel => exact ⟨rfl, rfl⟩
        case rest =>
          obtain ⟨rfl, rfl⟩ := hcut
          go_wp2_with fail
          by_cases hd : delim = []
          · have hcm := HRI.out.none hd
            subst hd
            rw [hcm] at ck1
            go_loopg [15, 16] 0 (fun g2 s15 s16 w7 => s15 = .bool false ∧ s16 = .int .i64 (pre.length : Int) ∧ w7 = wc)
            case atStart => exact ⟨rfl, rfl, rfl⟩
            case round =>
              obtain ⟨rfl, rfl, rfl⟩ := hrel
              have hw1 := HW1.out
              as_aux_lemma =>
                go_wp2_with fail
                go_roundg (qs.length - (i + 1))
                case measure => exact rise_meas hlt hg
                case rel => exact ⟨i + 1, hlt, Nat.le_refl _, by with_reducible first | exact val_succ rfl | exact val_succ hw1, rfl⟩
          · have hdl : 0 < delim.length := List.length_pos_iff.2 hd
            have hkey := HRI.out.key
            have HHAS := Lib.hid (HRI.out.has hd)
            have hklen : q.d.key.length = pre.length + rest.length := by rw [hkey, List.length_append]
            have hkmx := (HKM.out q (List.mem_of_getElem? hiq0.out))
            have HXT : Hid (∀ n, (⟨q.d.key.toArray⟩ : ByteArray).extract (pre.length + n) (pre.length + n + delim.length) = ⟨((rest.drop n).take delim.length).toArray⟩) := fun n => by
              rw [hkey, rise_extract]
            obtain ⟨K, hK⟩ : ∃ K, q.d.key = K := ⟨_, rfl⟩
            rw [hK] at hklen hkmx HXT ck0 hkl hkz hx
            rw [hK]
            obtain ⟨hm, hhm⟩ : ∃ hm, hasIn rest delim (rest.length + 1 - delim.length) = hm := ⟨_, rfl⟩
            rw [hhm] at HHAS
            rw [← HHAS.out] at ck1
            have HHM := Lib.hid hhm
            have HKL := Lib.hid hklen
            obtain ⟨d0, dt, rfl⟩ : ∃ d0 dt, delim = d0 :: dt := by cases delim with
              | nil => exact absurd rfl hd
              | cons d0 dt => exact ⟨d0, dt, rfl⟩
            have HDL := Lib.hid HPD.out.2
            clear hhm hkey hK hby hby2 hby3 hby4 hklen hd
            go_loopg [15, 16] (rest.length + 1 - (d0 :: dt).length) (fun g2 s15 s16 w7 => ∃ n P : Nat, Hid (P = pre.length + n) ∧ Hid (n ≤ rest.length + 1 - (d0 :: dt).length) ∧ Hid (rest.length + 1 - (d0 :: dt).length - n ≤ g2) ∧ s15 = .bool (hasIn rest (d0 :: dt) n) ∧ s16 = .int .i64 (P : Int) ∧ w7 = wc)
            case atStart => exact ⟨0, pre.length, rfl, Nat.zero_le _, Nat.le_refl _, rfl, rfl, rfl⟩
            case round =>
              obtain ⟨n, P, HP, HN, HG2, rfl, rfl, rfl⟩ := hrel
              obtain ⟨Q, hQ⟩ : ∃ Q, Q = P + (dt.length + 1) := ⟨_, rfl⟩
              by_cases hn : n < rest.length + 1 - (d0 :: dt).length
              · obtain ⟨hc1, hc2, hc3, hc4, hc5, hc6⟩ := rise_nums HP.out hQ hn HKL.out hkmx HDL.out
                have hxt := HXT.out n
                rw [← HP.out, show P + (d0 :: dt).length = Q from hQ.symm] at hxt
                have HSTEP := Lib.hid (hasIn_step rest (d0 :: dt) n)
                have HGG : Hid (rest.length + 1 - (d0 :: dt).length - (n + 1) < gk) := rise_meas hn HG2.out
                have HN1 : Hid (n + 1 ≤ rest.length + 1 - (d0 :: dt).length) := hn
                have HP1 : Hid (P + 1 = pre.length + (n + 1)) := by show _ = _; rw [HP.out]; rfl
                clear hn hdl hkmx hQ
                generalize (rest.drop n).take (d0 :: dt).length = X at *
                by_cases hX : X = d0 :: dt
                · subst hX
                  rw [beq_self_eq_true, Bool.or_true] at HSTEP
                  cases hasIn rest (d0 :: dt) n
                  · go_wp2_with fail
                    go_roundg (rest.length + 1 - (d0 :: dt).length - (n + 1))
                    case measure => exact HGG.out
                    case rel => exact ⟨n + 1, P + 1, HP1, HN1, Nat.le_refl _, by rw [HSTEP.out], by with_reducible first | exact val_succ rfl | exact val_succ hc3, rfl⟩
                  · go_wp2_with fail
                    go_roundg (rest.length + 1 - (d0 :: dt).length - (n + 1))
                    case measure => exact HGG.out
                    case rel => exact ⟨n + 1, P + 1, HP1, HN1, Nat.le_refl _, by rw [HSTEP.out], by with_reducible first | exact val_succ rfl | exact val_succ hc3, rfl⟩
                · have hX2 : (X == d0 :: dt) = false := beq_eq_false_iff_ne.2 hX
                  rw [hX2, Bool.or_false] at HSTEP
                  obtain ⟨hh, hhh⟩ : ∃ hh, hasIn rest (d0 :: dt) n = hh := ⟨_, rfl⟩
                  rw [hhh] at HSTEP
                  rw [hhh]
                  clear hhh
                  cases hh
                  · go_wp2_with fail
                    go_roundg (rest.length + 1 - (d0 :: dt).length - (n + 1))
                    case measure => exact HGG.out
                    case rel => exact ⟨n + 1, P + 1, HP1, HN1, Nat.le_refl _, by rw [HSTEP.out], by with_reducible first | exact val_succ rfl | exact val_succ hc3, rfl⟩
                  · go_wp2_with fail
                    go_roundg (rest.length + 1 - (d0 :: dt).length - (n + 1))
                    case measure => exact HGG.out
                    case rel => exact ⟨n + 1, P + 1, HP1, HN1, Nat.le_refl _, by rw [HSTEP.out], by with_reducible first | exact val_succ rfl | exact val_succ hc3, rfl⟩
              · obtain ⟨hc1, hc2⟩ := rise_stop HP.out hQ hn HN.out HKL.out hkmx HDL.out
                have hne : n = rest.length + 1 - (d0 :: dt).length := Nat.le_antisymm HN.out (Nat.le_of_not_lt hn)
                have hhe : hasIn rest (d0 :: dt) n = hm := by rw [hne]; exact HHM.out
                rw [hhe]
                clear hhe hne hn hdl hkmx hQ
                have hw1 := HW1.out
                cases hm
                · go_wp2_with fail
                  go_roundg (qs.length - (i + 1))
                  case measure => exact rise_meas hlt hg
                  case rel => exact ⟨i + 1, hlt, Nat.le_refl _, by with_reducible first | exact val_succ rfl | exact val_succ hw1, rfl⟩
                · go_wp2_with fail
                  go_roundg (qs.length - (i + 1))
                  case measure => exact rise_meas hlt hg
                  case rel => exact ⟨i + 1, hlt, Nat.le_refl _, by with_reducible first | exact val_succ rfl | exact val_succ hw1, rfl⟩
      · have hiz : ¬ (i : Int) < (qs.length : Int) := by omega
        have hp0 := HPC0.out
        as_aux_lemma =>
          go_wp2_with fail
          go_ret
          exact ⟨rfl, B5.out⟩
end Go.Proofs.YtgklbmcnpnmkkaaDoor
