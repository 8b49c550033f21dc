/-
  storehouseref01.Base64: it is enc64. (Printed by wip/gen/lsrb64.py.)
-/
import Derived.Test.YtgklbmcnpnmkkaaDoorSm26
namespace Go.Proofs.YtgklbmcnpnmkkaaDoor
open Go.RowKit Go.Lib

structure RB64At (w wr : World) (s out : List UInt8) (j : Nat) (v : Value) : Prop where
  own : wr.ownsRow w.heap.size 5 1 v out.length (byteCells out)
  eq : enc64 s = out ++ enc64 (s.drop j)
  below : Below w.heap.size w wr

set_option maxHeartbeats 16000000 in
set_option maxRecDepth 100000 in
theorem rBase64_any (s : List UInt8) (w : World) (hl : s.length ≤ 140737488355400) : Calls Tryd.prog 38 #[.string ⟨s.toArray⟩] w (B64Out s w) := by
  obtain ⟨i0, hi, hz0, hz1, hz2⟩ := info_byte
  have hsz : (⟨s.toArray⟩ : ByteArray).size = s.length := by simp [ByteArray.size]
  go_enter Tryd.func38, Tryd.ntmps38
  go_wp2_with fail
  go_loopg [3, 4] s.length (fun gg s3 s4 wr => ∃ (j : Nat) (out : List UInt8) (v : Value), s.length - j ≤ gg ∧ j ≤ s.length + 2 ∧ s4 = .int .i64 j ∧ s3 = v ∧ Hid (RB64At w wr s out j v))
  case atStart => exact ⟨0, [], _, by omega, by omega, rfl, rfl, World.ownsRow_nil _ _ _ _, rfl, Below.refl _ _⟩
  case round =>
    obtain ⟨j, out, v, hg, hj, rfl, hv, HB⟩ := hrel
    obtain ⟨av, cv, hva⟩ := own_form HB.out.own
    rw [hva] at hv
    subst hv hva
    by_cases hlt : j < s.length
    · have hltz : (j : Int) < (s.length : Int) := by omega
      have hj0 : 0 ≤ (j : Int) := by omega
      have hj1 : 0 ≤ (j : Int) + 1 := by omega
      have hj2 : 0 ≤ (j : Int) + 2 := by omega
      have hk0 : (j : Int) ≤ 4611686018427387904 := by omega
      have hk1 : (j : Int) + 1 ≤ 4611686018427387904 := by omega
      have hk2 : (j : Int) + 2 ≤ 4611686018427387904 := by omega
      obtain ⟨N, hN⟩ : ∃ N, nOf s j = N := ⟨_, rfl⟩
      have hN64 : N < 16777216 := by rw [← hN]; exact nOf_lt s j
      go_upto_block 2 with (fail)
      go_cut [5] (fun s5 wx => s5 = .int .i64 (N : Int) ∧ wx = wr)
      case first =>
        obtain ⟨x, hx⟩ : ∃ x, s[j]? = some x := ⟨_, List.getElem?_eq_getElem hlt⟩
        obtain ⟨hi0, hge0⟩ := str_get hx
        by_cases h1 : j + 1 < s.length
        · obtain ⟨y, hy⟩ : ∃ y, s[j + 1]? = some y := ⟨_, List.getElem?_eq_getElem h1⟩
          obtain ⟨hi1, hge1⟩ := str_get hy
          have h1z : (j : Int) + 1 < (s.length : Int) := by omega
          by_cases h2 : j + 2 < s.length
          · obtain ⟨z, hz⟩ : ∃ z, s[j + 2]? = some z := ⟨_, List.getElem?_eq_getElem h2⟩
            obtain ⟨hi2, hge2⟩ := str_get hz
            have h2z : (j : Int) + 2 < (s.length : Int) := by omega
            have HN : Hid (wrap64 (wrap64 (256 * wrap64 (wrap64 (256 * (x.toNat : Int)) + (y.toNat : Int))) + (z.toNat : Int)) = (N : Int)) := by show _ = _; rw [n64_3, ← hN]; unfold nOf; rw [hx, hy, hz]; rfl
            clear hx hy hz hN
            have hwa := vwrap hj0 hk0
            have hwb := vwrap hj1 hk1
            have hwc := vwrap hj2 hk2
            have hxb := veq (byte64 x)
            have hyb := veq (byte64 y)
            have hzb := veq (byte64 z)
            go_wp2_with fail
            refine wp_loop_rounds 4 ?_
            rw [rounds_succ]
            go_wp2_with fail
            rw [rounds_succ]
            go_wp2_with fail
            rw [rounds_succ]
            go_wp2_with fail
            rw [rounds_succ]
            go_wp2_with fail
            go_meet
            case rel => exact ⟨veq HN.out, rfl⟩
          · have h2z : decide ((j : Int) + 2 < (s.length : Int)) = false := by rw [decide_eq_false_iff_not]; omega
            have HN : Hid (wrap64 (256 * wrap64 (wrap64 (256 * (x.toNat : Int)) + (y.toNat : Int))) = (N : Int)) := by show _ = _; rw [n64_2, ← hN]; unfold nOf; rw [hx, hy, List.getElem?_eq_none (i := j + 2) (by omega)]; rfl
            clear hx hy hN
            have hwa := vwrap hj0 hk0
            have hwb := vwrap hj1 hk1
            have hwc := vwrap hj2 hk2
            have hxb := veq (byte64 x)
            have hyb := veq (byte64 y)
            go_wp2_with fail
            refine wp_loop_rounds 4 ?_
            rw [rounds_succ]
            go_wp2_with fail
            rw [rounds_succ]
            go_wp2_with fail
            rw [rounds_succ]
            go_wp2_with fail
            rw [rounds_succ]
            go_wp2_with fail
            go_meet
            case rel => exact ⟨veq HN.out, rfl⟩
        · have h1z : decide ((j : Int) + 1 < (s.length : Int)) = false := by rw [decide_eq_false_iff_not]; omega
          have h2z : decide ((j : Int) + 2 < (s.length : Int)) = false := by rw [decide_eq_false_iff_not]; omega
          have HN : Hid (wrap64 (256 * wrap64 (256 * (x.toNat : Int))) = (N : Int)) := by show _ = _; rw [n64_1, ← hN]; unfold nOf; rw [hx, List.getElem?_eq_none (i := j + 1) (by omega), List.getElem?_eq_none (i := j + 2) (by omega)]; rfl
          clear hx hN
          have hwa := vwrap hj0 hk0
          have hwb := vwrap hj1 hk1
          have hwc := vwrap hj2 hk2
          have hxb := veq (byte64 x)
          go_wp2_with fail
          refine wp_loop_rounds 4 ?_
          rw [rounds_succ]
          go_wp2_with fail
          rw [rounds_succ]
          go_wp2_with fail
          rw [rounds_succ]
          go_wp2_with fail
          rw [rounds_succ]
          go_wp2_with fail
          go_meet
          case rel => exact ⟨veq HN.out, rfl⟩
      case rest =>
        obtain ⟨rfl, rfl⟩ := hcut
        obtain ⟨q1, hq1⟩ : ∃ q : Nat, N / 262144 = q := ⟨_, rfl⟩
        obtain ⟨q2, hq2⟩ : ∃ q : Nat, N / 4096 = q := ⟨_, rfl⟩
        obtain ⟨q3, hq3⟩ : ∃ q : Nat, N / 64 = q := ⟨_, rfl⟩
        obtain ⟨r2, hr2⟩ : ∃ q : Nat, q2 % 64 = q := ⟨_, rfl⟩
        obtain ⟨r3, hr3⟩ : ∃ q : Nat, q3 % 64 = q := ⟨_, rfl⟩
        obtain ⟨r4, hr4⟩ : ∃ q : Nat, N % 64 = q := ⟨_, rfl⟩
        have f18 : (N : Int) / 262144 = (q1 : Int) := by omega
        have f12 : (N : Int) / 4096 = (q2 : Int) := by omega
        have f6 : (N : Int) / 64 = (q3 : Int) := by omega
        have a2 : (q2 : Int).tmod 64 = (r2 : Int) := by rw [tmod64, hr2]
        have a3 : (q3 : Int).tmod 64 = (r3 : Int) := by rw [tmod64, hr3]
        have a4 : (N : Int).tmod 64 = (r4 : Int) := by rw [tmod64, hr4]
        have HQ : Hid (q1 < 64 ∧ r2 < 64 ∧ r3 < 64 ∧ r4 < 64) := ⟨by omega, by omega, by omega, by omega⟩
        have HF : Hid (padsOf s j = [sx q1, sx r2, if j + 1 < s.length then sx r3 else 61, if j + 2 < s.length then sx r4 else 61]) := by show _ = _; unfold padsOf; rw [hN, hq1, hq2, hr2, hq3, hr3, hr4]
        have g2 : 0 ≤ (r2 : Int) := by omega
        have g3 : 0 ≤ (r3 : Int) := by omega
        have g4 : 0 ≤ (r4 : Int) := by omega
        have m2 : (r2 : Int) ≤ 4611686018427387904 := by omega
        have m3 : (r3 : Int) ≤ 4611686018427387904 := by omega
        have m4 : (r4 : Int) ≤ 4611686018427387904 := by omega
        have w2 := vwrap g2 m2
        have w3 := vwrap g3 m3
        have w4 := vwrap g4 m4
        clear hq1 hq2 hq3 hr2 hr3 hr4 hN64 hN g2 g3 g4 m2 m3 m4
        go_upto_region 12 with (fail)
        refine drawn_k (S := fun _ => True) (by kernel_rfl) trivial (fun hS0 K0 hK0 => ?_)
        refine wpAnyH_take (i := 0) (oi := { dst := some 34, op := _, type := _, pos := _, after := _, guard := _ }) (v := ?_) rfl (by kernel_rfl) (by kernel_rfl) (by kernel_rfl) (fun _ _ _ h => h) (Or.inl ⟨by kernel_rfl, ?_⟩) (by assumption) ?_
        rotate_left
        · (intro w hSw; (try dsimp only at hSw); go_simp); all_goals (with_reducible rfl)
        try simp only [Act.put, List.setIfInBounds_toArray, List.set_cons_zero, List.set_cons_succ]
        refine wpAnyH_take (i := 1) (oi := { dst := some 35, op := _, type := _, pos := _, after := _, guard := _ }) (v := ?_) rfl (by kernel_rfl) (by kernel_rfl) (by kernel_rfl) (fun _ _ _ h => h) (Or.inl ⟨by kernel_rfl, ?_⟩) (by assumption) ?_
        rotate_left
        · (intro w hSw; (try dsimp only at hSw); go_simp); all_goals (with_reducible rfl)
        try simp only [Act.put, List.setIfInBounds_toArray, List.set_cons_zero, List.set_cons_succ]
        refine wpAnyH_take (i := 2) (oi := { dst := some 36, op := _, type := _, pos := _, after := _, guard := _ }) (v := .int .u8 ((sx q1).toNat : Int)) rfl (by kernel_rfl) (by kernel_rfl) (by kernel_rfl) (fun _ _ _ h => h) (Or.inl ⟨by kernel_rfl, fun w _ => index64_op (by rfl) (by rfl) (by exact HQ.out.1) w⟩) (by assumption) ?_
        try simp only [Act.put, List.setIfInBounds_toArray, List.set_cons_zero, List.set_cons_succ]
        refine wpAnyH_take (i := 3) (oi := { dst := some 37, op := _, type := _, pos := _, after := _, guard := _ }) (v := ?_) rfl (by kernel_rfl) (by kernel_rfl) (by kernel_rfl) (fun _ _ _ h => h) (Or.inl ⟨by kernel_rfl, ?_⟩) (by assumption) ?_
        rotate_left
        · (intro w hSw; (try dsimp only at hSw); go_simp); all_goals (with_reducible rfl)
        try simp only [Act.put, List.setIfInBounds_toArray, List.set_cons_zero, List.set_cons_succ]
        refine wpAnyH_take (i := 4) (oi := { dst := some 38, op := _, type := _, pos := _, after := _, guard := _ }) (v := ?_) rfl (by kernel_rfl) (by kernel_rfl) (by kernel_rfl) (fun _ _ _ h => h) (Or.inl ⟨by kernel_rfl, ?_⟩) (by assumption) ?_
        rotate_left
        · (intro w hSw; (try dsimp only at hSw); go_simp); all_goals (with_reducible rfl)
        try simp only [Act.put, List.setIfInBounds_toArray, List.set_cons_zero, List.set_cons_succ]
        refine wpAnyH_take (i := 5) (oi := { dst := some 39, op := _, type := _, pos := _, after := _, guard := _ }) (v := ?_) rfl (by kernel_rfl) (by kernel_rfl) (by kernel_rfl) (fun _ _ _ h => h) (Or.inl ⟨by kernel_rfl, ?_⟩) (by assumption) ?_
        rotate_left
        · (intro w hSw; (try dsimp only at hSw); go_simp); all_goals (with_reducible rfl)
        try simp only [Act.put, List.setIfInBounds_toArray, List.set_cons_zero, List.set_cons_succ]
        refine wpAnyH_take (i := 6) (oi := { dst := some 40, op := _, type := _, pos := _, after := _, guard := _ }) (v := .int .u8 ((sx r2).toNat : Int)) rfl (by kernel_rfl) (by kernel_rfl) (by kernel_rfl) (fun _ _ _ h => h) (Or.inl ⟨by kernel_rfl, fun w _ => index64_op (by rfl) (by rfl) (by exact HQ.out.2.1) w⟩) (by assumption) ?_
        try simp only [Act.put, List.setIfInBounds_toArray, List.set_cons_zero, List.set_cons_succ]
        refine wpAnyH_take (i := 7) (oi := { dst := some 41, op := _, type := _, pos := _, after := _, guard := _ }) (v := ?_) rfl (by kernel_rfl) (by kernel_rfl) (by kernel_rfl) (fun _ _ _ h => h) (Or.inl ⟨by kernel_rfl, ?_⟩) (by assumption) ?_
        rotate_left
        · (intro w hSw; (try dsimp only at hSw); go_simp); all_goals (with_reducible rfl)
        try simp only [Act.put, List.setIfInBounds_toArray, List.set_cons_zero, List.set_cons_succ]
        refine wpAnyH_take (i := 8) (oi := { dst := some 42, op := _, type := _, pos := _, after := _, guard := _ }) (v := ?_) rfl (by kernel_rfl) (by kernel_rfl) (by kernel_rfl) (fun _ _ _ h => h) (Or.inl ⟨by kernel_rfl, ?_⟩) (by assumption) ?_
        rotate_left
        · (intro w hSw; (try dsimp only at hSw); go_simp); all_goals (with_reducible rfl)
        try simp only [Act.put, List.setIfInBounds_toArray, List.set_cons_zero, List.set_cons_succ]
        refine wpAnyH_take (i := 9) (oi := { dst := some 43, op := _, type := _, pos := _, after := _, guard := _ }) (v := ?_) rfl (by kernel_rfl) (by kernel_rfl) (by kernel_rfl) (fun _ _ _ h => h) (Or.inl ⟨by kernel_rfl, ?_⟩) (by assumption) ?_
        rotate_left
        · (intro w hSw; (try dsimp only at hSw); go_simp); all_goals (with_reducible rfl)
        try simp only [Act.put, List.setIfInBounds_toArray, List.set_cons_zero, List.set_cons_succ]
        refine wpAnyH_take (i := 10) (oi := { dst := some 44, op := _, type := _, pos := _, after := _, guard := _ }) (v := .int .u8 ((sx r3).toNat : Int)) rfl (by kernel_rfl) (by kernel_rfl) (by kernel_rfl) (fun _ _ _ h => h) (Or.inl ⟨by kernel_rfl, fun w _ => index64_op (by rfl) (by rfl) (by exact HQ.out.2.2.1) w⟩) (by assumption) ?_
        try simp only [Act.put, List.setIfInBounds_toArray, List.set_cons_zero, List.set_cons_succ]
        refine wpAnyH_take (i := 11) (oi := { dst := some 45, op := _, type := _, pos := _, after := _, guard := _ }) (v := ?_) rfl (by kernel_rfl) (by kernel_rfl) (by kernel_rfl) (fun _ _ _ h => h) (Or.inl ⟨by kernel_rfl, ?_⟩) (by assumption) ?_
        rotate_left
        · (intro w hSw; (try dsimp only at hSw); go_simp); all_goals (with_reducible rfl)
        try simp only [Act.put, List.setIfInBounds_toArray, List.set_cons_zero, List.set_cons_succ]
        refine wpAnyH_take (i := 12) (oi := { dst := some 46, op := _, type := _, pos := _, after := _, guard := _ }) (v := ?_) rfl (by kernel_rfl) (by kernel_rfl) (by kernel_rfl) (fun _ _ _ h => h) (Or.inl ⟨by kernel_rfl, ?_⟩) (by assumption) ?_
        rotate_left
        · (intro w hSw; (try dsimp only at hSw); go_simp); all_goals (with_reducible rfl)
        try simp only [Act.put, List.setIfInBounds_toArray, List.set_cons_zero, List.set_cons_succ]
        refine wpAnyH_take (i := 13) (oi := { dst := some 47, op := _, type := _, pos := _, after := _, guard := _ }) (v := .int .u8 ((sx r4).toNat : Int)) rfl (by kernel_rfl) (by kernel_rfl) (by kernel_rfl) (fun _ _ _ h => h) (Or.inl ⟨by kernel_rfl, fun w _ => index64_op (by rfl) (by rfl) (by exact HQ.out.2.2.2) w⟩) (by assumption) ?_
        try simp only [Act.put, List.setIfInBounds_toArray, List.set_cons_zero, List.set_cons_succ]
        refine wpAnyH_ready (rs := [14]) (by kernel_rfl) (by simp) ?_
        refine (AllReadyH.cons (o := { dst := some 48, op := _, type := _, pos := _, after := _, guard := _ }) rfl (fun K hK => ?_) AllReadyH.nil)
        rw [if_pos (by kernel_rfl)]
        go_wp2_with fail
        refine hK.out _ _ trivial (fun _ => ?_)
        clear hK K
        try simp only [Act.put, List.setIfInBounds_toArray, List.set_cons_zero, List.set_cons_succ]
        refine wpAnyH_take (i := 15) (oi := { dst := some 7, op := _, type := _, pos := _, after := _, guard := _ }) (v := ?_) rfl (by kernel_rfl) (by kernel_rfl) (by kernel_rfl) (fun _ _ _ h => h) (Or.inl ⟨by kernel_rfl, ?_⟩) (by assumption) ?_
        rotate_left
        · (intro w hSw; (try dsimp only at hSw); go_simp); all_goals (with_reducible rfl)
        try simp only [Act.put, List.setIfInBounds_toArray, List.set_cons_zero, List.set_cons_succ]
        refine wpAnyH_done (by kernel_rfl) ?_ _
        refine hK0 _ _ ?_
        generalize hW1 : (wc.alloc _).drew = W1
        have HW1 : Hid (W1.heap[wc.heap.size]? = some (.cells #[.int .u8 ((sx q1).toNat : Int), .int .u8 ((sx r2).toNat : Int), .int .u8 ((sx r3).toNat : Int), .int .u8 ((sx r4).toNat : Int)] 5 (0, 0))) := by show _ = _; rw [← hW1]; exact heap_alloc_new _ _
        have BW1 : Hid (Below wc.heap.size wc W1) := by show Below _ _ _; rw [← hW1]; exact (below_alloc (Below.refl _ _) (Nat.le_refl _) _).drew
        clear hW1 hS0
        have c42 : W1.cell? ⟨wc.heap.size, 2, none⟩ = some (.int .u8 ((sx r3).toNat : Int)) := cell_of_heap HW1.out
        have c43 : W1.cell? ⟨wc.heap.size, 3, none⟩ = some (.int .u8 ((sx r4).toNat : Int)) := cell_of_heap HW1.out
        have f4 := fun o => free_of_heap (x := o) HW1.out
        obtain ⟨D, hD⟩ : ∃ D : Nat, s.length - j = D := ⟨_, rfl⟩
        have hDz : (s.length : Int) - (j : Int) = (D : Int) := by omega
        have hvD : Value.int .i64 (wrap64 ((s.length : Int) - (j : Int))) = Value.int .i64 (D : Int) := by rw [hDz]; exact vwrap (by omega) (by omega)
        have hv3 : Value.int .i64 (wrap64 ((j : Int) + 3)) = Value.int .i64 ((j : Int) + 3) := vwrap (by omega) (by omega)
        by_cases h1 : j + 1 < s.length
        · by_cases h2 : j + 2 < s.length
          · have hd3 : ¬ (D : Int) < 3 := by omega
            have hd2 : ¬ (D : Int) < 2 := by omega
            have H5 : Hid ((W1).heap[wc.heap.size]? = some (.cells #[.int .u8 ((sx q1).toNat : Int), .int .u8 ((sx r2).toNat : Int), .int .u8 ((sx r3).toNat : Int), .int .u8 ((sx r4).toNat : Int)] 5 (0, 0))) := HW1.out
            have B5 : Hid (Below wc.heap.size wc (W1)) := BW1.out
            have O5 : Hid ((W1).ownsRow w.heap.size 5 1 (.slice av out.length cv) out.length (byteCells out)) := own_later HB.out.own B5.out
            have HP : Hid (padsOf s j = [sx q1, sx r2, sx r3, sx r4]) := by show _ = _; rw [HF.out, if_pos h1, if_pos h2]
            have hol : out.length + 4 ≤ (enc64 s).length := by
              rw [HB.out.eq, pads_drop hlt, List.length_append, List.length_append]
              simp only [padsOf, List.length_cons, List.length_nil]
              omega
            have hel := enc64_len s
            have hz5 : w.heap.size ≤ wc.heap.size := HB.out.below.size
            have hz6 := B5.out.size
            have hz7 := BW1.out.size
            have hlen2 : out.length + 4 ≤ 187649984473900 := by omega
            clear hel hol
            go_wp2_with (at_builtin; refine wpList_append_own_wide _ rfl _ _ 75 rfl w.heap.size 5 i0 (.int .u8 0) 1 1 Tryd.underlying75 hi hz0 hz1 hz2 rfl (by decide) _ _ _ rfl O5.out ⟨wc.heap.size, 0, none⟩ 4 4 (#[.int .u8 ((sx q1).toNat : Int), .int .u8 ((sx r2).toNat : Int), .int .u8 ((sx r3).toNat : Int), .int .u8 ((sx r4).toNat : Int)] : Array Value).toList rfl rfl ?c1 ?c2 ?c3 ?c4 ?c5 ?_)
            case c1 =>
              intro i u hi
              exact (cell_of_heap H5.out).trans (by simpa using hi)
            case c2 => simp [Value.oneCell']
            case c3 => simp only [maxLen]; omega
            case c4 => omega
            case c5 => omega
            intro v' w7 hown' hgrow _
            have B7 : Below w.heap.size w w7 := (HB.out.below.trans (B5.out.mono hz5)).grown hgrow (Nat.le_trans hz5 B5.out.size) (fun k hk => (HB.out.own.lt k hk).1)
            go_wp2_with fail
            go_roundg (s.length - (j + 3))
            case measure => omega
            case rel =>
              refine ⟨j + 3, out ++ padsOf s j, v', Nat.le_refl _, by omega, veq (by first | rfl | exact wrap_nn (by omega) (by omega)), rfl, ?_, ?_, B7⟩
              · rw [List.length_append]
                have e : byteCells (out ++ padsOf s j) = byteCells out ++ (#[.int .u8 ((sx q1).toNat : Int), .int .u8 ((sx r2).toNat : Int), .int .u8 ((sx r3).toNat : Int), .int .u8 ((sx r4).toNat : Int)] : Array Value).toList := by rw [HP.out]; simp [byteCells]
                have e4 : (padsOf s j).length = 4 := rfl
                rw [e, e4]
                exact hown'
              · rw [HB.out.eq, pads_drop hlt, List.append_assoc]
          · have hd3 : (D : Int) < 3 := by omega
            have hd2 : ¬ (D : Int) < 2 := by omega
            have H5 : Hid (((W1.setCell ⟨wc.heap.size, 3, none⟩ (.int .u8 61))).heap[wc.heap.size]? = some (.cells #[.int .u8 ((sx q1).toNat : Int), .int .u8 ((sx r2).toNat : Int), .int .u8 ((sx r3).toNat : Int), .int .u8 61] 5 (0, 0))) := by show _ = _; rw [heap_set HW1.out]; simp
            have B5 : Hid (Below wc.heap.size wc ((W1.setCell ⟨wc.heap.size, 3, none⟩ (.int .u8 61)))) := BW1.out.setCell (by simp) _
            have O5 : Hid (((W1.setCell ⟨wc.heap.size, 3, none⟩ (.int .u8 61))).ownsRow w.heap.size 5 1 (.slice av out.length cv) out.length (byteCells out)) := own_later HB.out.own B5.out
            have HP : Hid (padsOf s j = [sx q1, sx r2, sx r3, 61]) := by show _ = _; rw [HF.out, if_pos h1, if_neg h2]
            have hol : out.length + 4 ≤ (enc64 s).length := by
              rw [HB.out.eq, pads_drop hlt, List.length_append, List.length_append]
              simp only [padsOf, List.length_cons, List.length_nil]
              omega
            have hel := enc64_len s
            have hz5 : w.heap.size ≤ wc.heap.size := HB.out.below.size
            have hz6 := B5.out.size
            have hz7 := BW1.out.size
            have hlen2 : out.length + 4 ≤ 187649984473900 := by omega
            clear hel hol
            go_wp2_with (at_builtin; refine wpList_append_own_wide _ rfl _ _ 75 rfl w.heap.size 5 i0 (.int .u8 0) 1 1 Tryd.underlying75 hi hz0 hz1 hz2 rfl (by decide) _ _ _ rfl O5.out ⟨wc.heap.size, 0, none⟩ 4 4 (#[.int .u8 ((sx q1).toNat : Int), .int .u8 ((sx r2).toNat : Int), .int .u8 ((sx r3).toNat : Int), .int .u8 61] : Array Value).toList rfl rfl ?c1 ?c2 ?c3 ?c4 ?c5 ?_)
            case c1 =>
              intro i u hi
              exact (cell_of_heap H5.out).trans (by simpa using hi)
            case c2 => simp [Value.oneCell']
            case c3 => simp only [maxLen]; omega
            case c4 => omega
            case c5 => omega
            intro v' w7 hown' hgrow _
            have B7 : Below w.heap.size w w7 := (HB.out.below.trans (B5.out.mono hz5)).grown hgrow (Nat.le_trans hz5 B5.out.size) (fun k hk => (HB.out.own.lt k hk).1)
            go_wp2_with fail
            go_roundg (s.length - (j + 3))
            case measure => omega
            case rel =>
              refine ⟨j + 3, out ++ padsOf s j, v', Nat.le_refl _, by omega, veq (by first | rfl | exact wrap_nn (by omega) (by omega)), rfl, ?_, ?_, B7⟩
              · rw [List.length_append]
                have e : byteCells (out ++ padsOf s j) = byteCells out ++ (#[.int .u8 ((sx q1).toNat : Int), .int .u8 ((sx r2).toNat : Int), .int .u8 ((sx r3).toNat : Int), .int .u8 61] : Array Value).toList := by rw [HP.out]; simp [byteCells]
                have e4 : (padsOf s j).length = 4 := rfl
                rw [e, e4]
                exact hown'
              · rw [HB.out.eq, pads_drop hlt, List.append_assoc]
        · have hd3 : (D : Int) < 3 := by omega
          have hd2 : (D : Int) < 2 := by omega
          have h2 : ¬ j + 2 < s.length := by omega
          have H5 : Hid (((W1.setCell ⟨wc.heap.size, 3, none⟩ (.int .u8 61)).setCell ⟨wc.heap.size, 2, none⟩ (.int .u8 61)).heap[wc.heap.size]? = some (.cells #[.int .u8 ((sx q1).toNat : Int), .int .u8 ((sx r2).toNat : Int), .int .u8 61, .int .u8 61] 5 (0, 0))) := by show _ = _; rw [heap_set (heap_set HW1.out _)]; simp
          have B5 : Hid (Below wc.heap.size wc ((W1.setCell ⟨wc.heap.size, 3, none⟩ (.int .u8 61)).setCell ⟨wc.heap.size, 2, none⟩ (.int .u8 61))) := (BW1.out.setCell (by simp) _).setCell (by simp) _
          have O5 : Hid (((W1.setCell ⟨wc.heap.size, 3, none⟩ (.int .u8 61)).setCell ⟨wc.heap.size, 2, none⟩ (.int .u8 61)).ownsRow w.heap.size 5 1 (.slice av out.length cv) out.length (byteCells out)) := own_later HB.out.own B5.out
          have HP : Hid (padsOf s j = [sx q1, sx r2, 61, 61]) := by show _ = _; rw [HF.out, if_neg h1, if_neg h2]
          have hol : out.length + 4 ≤ (enc64 s).length := by
            rw [HB.out.eq, pads_drop hlt, List.length_append, List.length_append]
            simp only [padsOf, List.length_cons, List.length_nil]
            omega
          have hel := enc64_len s
          have hz5 : w.heap.size ≤ wc.heap.size := HB.out.below.size
          have hz6 := B5.out.size
          have hz7 := BW1.out.size
          have hlen2 : out.length + 4 ≤ 187649984473900 := by omega
          clear hel hol
          go_wp2_with (at_builtin; refine wpList_append_own_wide _ rfl _ _ 75 rfl w.heap.size 5 i0 (.int .u8 0) 1 1 Tryd.underlying75 hi hz0 hz1 hz2 rfl (by decide) _ _ _ rfl O5.out ⟨wc.heap.size, 0, none⟩ 4 4 (#[.int .u8 ((sx q1).toNat : Int), .int .u8 ((sx r2).toNat : Int), .int .u8 61, .int .u8 61] : Array Value).toList rfl rfl ?c1 ?c2 ?c3 ?c4 ?c5 ?_)
          case c1 =>
            intro i u hi
            exact (cell_of_heap H5.out).trans (by simpa using hi)
          case c2 => simp [Value.oneCell']
          case c3 => simp only [maxLen]; omega
          case c4 => omega
          case c5 => omega
          intro v' w7 hown' hgrow _
          have B7 : Below w.heap.size w w7 := (HB.out.below.trans (B5.out.mono hz5)).grown hgrow (Nat.le_trans hz5 B5.out.size) (fun k hk => (HB.out.own.lt k hk).1)
          go_wp2_with fail
          go_roundg (s.length - (j + 3))
          case measure => omega
          case rel =>
            refine ⟨j + 3, out ++ padsOf s j, v', Nat.le_refl _, by omega, veq (by first | rfl | exact wrap_nn (by omega) (by omega)), rfl, ?_, ?_, B7⟩
            · rw [List.length_append]
              have e : byteCells (out ++ padsOf s j) = byteCells out ++ (#[.int .u8 ((sx q1).toNat : Int), .int .u8 ((sx r2).toNat : Int), .int .u8 61, .int .u8 61] : Array Value).toList := by rw [HP.out]; simp [byteCells]
              have e4 : (padsOf s j).length = 4 := rfl
              rw [e, e4]
              exact hown'
            · rw [HB.out.eq, pads_drop hlt, List.append_assoc]
    · have hltz : ¬ (j : Int) < (s.length : Int) := by omega
      have HEQ : Hid (enc64 s = out) := by show _ = _; rw [HB.out.eq, List.drop_eq_nil_of_le (by omega)]; simp [enc64]
      have HBB := Lib.hid HB.out.below
      have hcv := own_text HB.out.own
      go_wp2_with fail
      go_ret
      refine ⟨?_, HBB.out⟩
      rw [HEQ.out]
      rfl
end Go.Proofs.YtgklbmcnpnmkkaaDoor
