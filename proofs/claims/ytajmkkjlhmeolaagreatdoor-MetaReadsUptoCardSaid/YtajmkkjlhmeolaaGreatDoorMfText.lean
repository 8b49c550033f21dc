/-
  storehouseref19: a part and an upload as their records: the walks.
-/
import Derived.Test.YtajmkkjlhmeolaaGreatDoorSm29
namespace Go.Proofs.YtajmkkjlhmeolaaGreatDoor
open Go.RowKit Go.Lib Go.PlainAid

theorem fieldL_len (t : List UInt8) (h : t.length ≤ 9223372036854775807) : (fieldL t).length ≤ t.length + 23 := by
  unfold fieldL
  have := itoa_length_le (t.length : Int) (by omega) (by omega)
  simp
  omega
theorem numL_len {n : Int} (h0 : 0 ≤ n) (h1 : n ≤ 9223372036854775807) : (numL n).length ≤ 44 := by
  unfold numL
  have := itoa_length_le n (by omega) h1
  have := fieldL_len (itoa n) (by omega)
  omega
theorem rNumI_any {n : Int} (h0 : 0 ≤ n) (h1 : n ≤ 9223372036854775807) (w : World) : Calls Tryz.prog 78 #[.int .i64 n] w fun e w' => e = .returned (.string ⟨(numL n).toArray⟩) ∧ ∃ q, w' = w.drewN q := by
  obtain ⟨k, rfl⟩ := Int.eq_ofNat_of_zero_le h0
  exact rNum_any k (by omega) w

theorem ret_tup {a b : ByteArray} {x : Bool} (h : a = b) : Ending.returned (.tuple #[.string a, .bool x]) = .returned (.tuple #[.string b, .bool x]) := by rw [h]
/-- what a writing of the reference tells -/
def RTextOut (l : List UInt8) (ok : Bool) (w : World) (e : Ending) (w' : World) : Prop :=
  e = .returned (.tuple #[.string ⟨(if ok then l else []).toArray⟩, .bool ok]) ∧ Below w.heap.size w w'

set_option maxHeartbeats 2000000 in
set_option maxRecDepth 100000 in
theorem rPartText_any (p : PartV) (w : World) : Calls Tryz.prog 45 #[.agg p.cells] w (RTextOut (partL p) (partRB p) w) := by
  have HR := Lib.hid (fun W => rRightPart_any p W)
  have hiff := partRB_iff p
  have BA : Hid (Below w.heap.size w (w.alloc (.cells p.cells 56))) := below_alloc (Below.refl _ _) (Nat.le_refl _) _
  have HA : Hid ((w.alloc (.cells p.cells 56)).heap[w.heap.size]? = some (.cells p.cells 56 (0, 0))) := heap_alloc_new _ _
  obtain ⟨R, hR⟩ : ∃ R, partRB p = R := ⟨_, rfl⟩
  rw [hR] at HR hiff ⊢
  cases R with
  | false =>
    clear hiff hR
    obtain ⟨n, z, t, e, b⟩ := p
    simp only [PartV.cells] at HR BA HA ⊢
    go_enter Tryz.func45, Tryz.ntmps45
    go_wp2_with (refine wpList_load_row (by rfl) 56 _ (by rfl) w.heap.size (by rfl) 56 _ (0, 0) _ (by exact HA.out) Tryz.underlying56 rfl (by kernel_rfl) ?_)
    refine (HR.out _).mono ?_
    rintro e w1 ⟨rfl, hb1⟩
    have B1 := Lib.hid (BA.out.trans (hb1.mono BA.out.size))
    clear hb1
    go_wp2
    go_ret2
    exact ⟨rfl, B1.out⟩
  | true =>
    have hr := hiff.1 rfl
    have h1 := hr.num; have h2 := hr.size; have h3 := hr.when_; have h4 := hr.etag; have h5 := hr.blob
    have HE : Hid (partL p = fieldL [80] ++ numL p.num ++ numL p.size ++ numL p.when_ ++ fieldL p.etag ++ numL p.blob) := by show _ = _; rw [partL_eq]; simp
    have F0 := Lib.hid (fun W => rField_any [80] (by simp) W)
    have F1 := Lib.hid (fun W => rNumI_any (n := p.num) (by omega) (by omega) W)
    have F2 := Lib.hid (fun W => rNumI_any (n := p.size) (by omega) (by omega) W)
    have F3 := Lib.hid (fun W => rNumI_any (n := p.when_) (by omega) (by omega) W)
    have F4 := Lib.hid (fun W => rField_any p.etag (by omega) W)
    have F5 := Lib.hid (fun W => rNumI_any (n := p.blob) (by omega) (by omega) W)
    have g0 := fieldL_len [80] (by simp)
    have g1 := numL_len (n := p.num) (by omega) (by omega)
    have g2 := numL_len (n := p.size) (by omega) (by omega)
    have g3 := numL_len (n := p.when_) (by omega) (by omega)
    have g4 := fieldL_len p.etag (by omega)
    have g5 := numL_len (n := p.blob) (by omega) (by omega)
    simp only [List.length_cons, List.length_nil] at g0
    clear hr hiff hR h1 h2 h3 h5
    obtain ⟨n, z, t, e, b⟩ := p
    simp only at HE F1 F2 F3 F4 F5 g1 g2 g3 g4 g5 h4
    simp only [PartV.cells] at HR BA HA ⊢
    generalize partL ⟨n, z, t, e, b⟩ = X at HE ⊢
    generalize fieldL [80] = X0 at HE F0 g0
    generalize numL n = X1 at HE F1 g1
    generalize numL z = X2 at HE F2 g2
    generalize numL t = X3 at HE F3 g3
    generalize fieldL e = X4 at HE F4 g4
    generalize numL b = X5 at HE F5 g5
    have n1 : ¬ 9223372036854775807 < X0.length + X1.length := by omega
    have n2 : ¬ 9223372036854775807 < X0.length + X1.length + X2.length := by omega
    have n3 : ¬ 9223372036854775807 < X0.length + X1.length + X2.length + X3.length := by omega
    have n4 : ¬ 9223372036854775807 < X0.length + X1.length + X2.length + X3.length + X4.length := by omega
    have n5 : ¬ 9223372036854775807 < X0.length + X1.length + X2.length + X3.length + X4.length + X5.length := by omega
    clear g0 g1 g2 g3 g4 g5
    go_enter Tryz.func45, Tryz.ntmps45
    go_wp2_with (refine wpList_load_row (by rfl) 56 _ (by rfl) w.heap.size (by rfl) 56 _ (0, 0) _ (by exact HA.out) Tryz.underlying56 rfl (by kernel_rfl) ?_)
    refine (HR.out _).mono ?_
    rintro e w1 ⟨rfl, hb1⟩
    have B1 := Lib.hid (BA.out.trans (hb1.mono BA.out.size))
    have H1 := (hb1.block _ (Array.getElem?_eq_some_iff.1 HA.out).1).trans HA.out
    have Hw1 := Lib.hid H1
    have Bw1 := B1
    clear hb1 H1 B1
    go_wp2_with fail
    refine wp_region_held_drew (S := (fun W : World => W.heap[w.heap.size]? = some (.cells #[.int .i64 n, .int .i64 z, .int .i64 t, .string ⟨e.toArray⟩, .int .i64 b] 56 (0, 0)))) (by kernel_rfl) Hw1.out (fun hS0 => ?_)
    have Hd : Hid (w1.drew.heap[w.heap.size]? = some (.cells #[.int .i64 n, .int .i64 z, .int .i64 t, .string ⟨e.toArray⟩, .int .i64 b] 56 (0, 0))) := Hw1.out
    have Bd := Lib.hid (Below.drew Bw1.out)
    generalize w1.drew = v0 at Hd Bd hS0 ⊢
    have Hv0 := Hd
    have Bv0 := Bd
    clear Hd Bd Hw1 Bw1
    refine wpAnyH_take (i := 1) (oi := { dst := some 10, op := _, type := _, pos := _, after := _, guard := _ }) (v := ?_) rfl (by kernel_rfl) (by kernel_rfl) (by kernel_rfl) (fun _ _ _ h => h) (Or.inl ⟨by kernel_rfl, ?_⟩) (by assumption) ?_
    rotate_left
    · (intro w hSw; (try dsimp only at hSw); go_simp); all_goals (with_reducible rfl)
    try simp only [Act.put, List.setIfInBounds_toArray, List.set_cons_zero, List.set_cons_succ]
    refine wpAnyH_take (i := 2) (oi := { dst := some 11, op := _, type := _, pos := _, after := _, guard := _ }) (v := ?_) rfl (by kernel_rfl) (by kernel_rfl) (by kernel_rfl) (fun _ _ _ h => h) (Or.inl ⟨by kernel_rfl, ?_⟩) (by assumption) ?_
    rotate_left
    · (intro w hSw; (try dsimp only at hSw); (have c0 := cell_of_heap (x := 0) hSw); (have c1 := cell_of_heap (x := 1) hSw); (have c2 := cell_of_heap (x := 2) hSw); (have c3 := cell_of_heap (x := 3) hSw); (have c4 := cell_of_heap (x := 4) hSw); (simp at c0 c1 c2 c3 c4); go_simp); all_goals (with_reducible rfl)
    try simp only [Act.put, List.setIfInBounds_toArray, List.set_cons_zero, List.set_cons_succ]
    refine wpAnyH_take (i := 5) (oi := { dst := some 14, op := _, type := _, pos := _, after := _, guard := _ }) (v := ?_) rfl (by kernel_rfl) (by kernel_rfl) (by kernel_rfl) (fun _ _ _ h => h) (Or.inl ⟨by kernel_rfl, ?_⟩) (by assumption) ?_
    rotate_left
    · (intro w hSw; (try dsimp only at hSw); go_simp); all_goals (with_reducible rfl)
    try simp only [Act.put, List.setIfInBounds_toArray, List.set_cons_zero, List.set_cons_succ]
    refine wpAnyH_take (i := 6) (oi := { dst := some 15, op := _, type := _, pos := _, after := _, guard := _ }) (v := ?_) rfl (by kernel_rfl) (by kernel_rfl) (by kernel_rfl) (fun _ _ _ h => h) (Or.inl ⟨by kernel_rfl, ?_⟩) (by assumption) ?_
    rotate_left
    · (intro w hSw; (try dsimp only at hSw); (have c0 := cell_of_heap (x := 0) hSw); (have c1 := cell_of_heap (x := 1) hSw); (have c2 := cell_of_heap (x := 2) hSw); (have c3 := cell_of_heap (x := 3) hSw); (have c4 := cell_of_heap (x := 4) hSw); (simp at c0 c1 c2 c3 c4); go_simp); all_goals (with_reducible rfl)
    try simp only [Act.put, List.setIfInBounds_toArray, List.set_cons_zero, List.set_cons_succ]
    refine wpAnyH_take (i := 9) (oi := { dst := some 18, op := _, type := _, pos := _, after := _, guard := _ }) (v := ?_) rfl (by kernel_rfl) (by kernel_rfl) (by kernel_rfl) (fun _ _ _ h => h) (Or.inl ⟨by kernel_rfl, ?_⟩) (by assumption) ?_
    rotate_left
    · (intro w hSw; (try dsimp only at hSw); go_simp); all_goals (with_reducible rfl)
    try simp only [Act.put, List.setIfInBounds_toArray, List.set_cons_zero, List.set_cons_succ]
    refine wpAnyH_take (i := 10) (oi := { dst := some 19, op := _, type := _, pos := _, after := _, guard := _ }) (v := ?_) rfl (by kernel_rfl) (by kernel_rfl) (by kernel_rfl) (fun _ _ _ h => h) (Or.inl ⟨by kernel_rfl, ?_⟩) (by assumption) ?_
    rotate_left
    · (intro w hSw; (try dsimp only at hSw); (have c0 := cell_of_heap (x := 0) hSw); (have c1 := cell_of_heap (x := 1) hSw); (have c2 := cell_of_heap (x := 2) hSw); (have c3 := cell_of_heap (x := 3) hSw); (have c4 := cell_of_heap (x := 4) hSw); (simp at c0 c1 c2 c3 c4); go_simp); all_goals (with_reducible rfl)
    try simp only [Act.put, List.setIfInBounds_toArray, List.set_cons_zero, List.set_cons_succ]
    refine wpAnyH_take (i := 13) (oi := { dst := some 22, op := _, type := _, pos := _, after := _, guard := _ }) (v := ?_) rfl (by kernel_rfl) (by kernel_rfl) (by kernel_rfl) (fun _ _ _ h => h) (Or.inl ⟨by kernel_rfl, ?_⟩) (by assumption) ?_
    rotate_left
    · (intro w hSw; (try dsimp only at hSw); go_simp); all_goals (with_reducible rfl)
    try simp only [Act.put, List.setIfInBounds_toArray, List.set_cons_zero, List.set_cons_succ]
    refine wpAnyH_take (i := 14) (oi := { dst := some 23, op := _, type := _, pos := _, after := _, guard := _ }) (v := ?_) rfl (by kernel_rfl) (by kernel_rfl) (by kernel_rfl) (fun _ _ _ h => h) (Or.inl ⟨by kernel_rfl, ?_⟩) (by assumption) ?_
    rotate_left
    · (intro w hSw; (try dsimp only at hSw); (have c0 := cell_of_heap (x := 0) hSw); (have c1 := cell_of_heap (x := 1) hSw); (have c2 := cell_of_heap (x := 2) hSw); (have c3 := cell_of_heap (x := 3) hSw); (have c4 := cell_of_heap (x := 4) hSw); (simp at c0 c1 c2 c3 c4); go_simp); all_goals (with_reducible rfl)
    try simp only [Act.put, List.setIfInBounds_toArray, List.set_cons_zero, List.set_cons_succ]
    refine wpAnyH_take (i := 17) (oi := { dst := some 26, op := _, type := _, pos := _, after := _, guard := _ }) (v := ?_) rfl (by kernel_rfl) (by kernel_rfl) (by kernel_rfl) (fun _ _ _ h => h) (Or.inl ⟨by kernel_rfl, ?_⟩) (by assumption) ?_
    rotate_left
    · (intro w hSw; (try dsimp only at hSw); go_simp); all_goals (with_reducible rfl)
    try simp only [Act.put, List.setIfInBounds_toArray, List.set_cons_zero, List.set_cons_succ]
    refine wpAnyH_take (i := 18) (oi := { dst := some 27, op := _, type := _, pos := _, after := _, guard := _ }) (v := ?_) rfl (by kernel_rfl) (by kernel_rfl) (by kernel_rfl) (fun _ _ _ h => h) (Or.inl ⟨by kernel_rfl, ?_⟩) (by assumption) ?_
    rotate_left
    · (intro w hSw; (try dsimp only at hSw); (have c0 := cell_of_heap (x := 0) hSw); (have c1 := cell_of_heap (x := 1) hSw); (have c2 := cell_of_heap (x := 2) hSw); (have c3 := cell_of_heap (x := 3) hSw); (have c4 := cell_of_heap (x := 4) hSw); (simp at c0 c1 c2 c3 c4); go_simp); all_goals (with_reducible rfl)
    try simp only [Act.put, List.setIfInBounds_toArray, List.set_cons_zero, List.set_cons_succ]
    refine wpAnyH_ready (rs := [0]) (by kernel_rfl) (by simp) ?_
    refine (AllReadyH.cons (o := { dst := some 9, op := _, type := _, pos := _, after := _, guard := _ }) rfl (fun K hK => ?_) AllReadyH.nil)
    rw [if_pos (by kernel_rfl)]
    refine wp_call_go Tryz.func77 (by kernel_rfl) (by kernel_rfl) (by rfl) (F0.out _) (by rfl) ?_
    rintro e v1 ⟨rfl, qv1, rfl⟩
    refine ⟨_, rfl, ?_⟩
    have Hv1 : Hid ((v0.drewN qv1).heap[w.heap.size]? = some (.cells #[.int .i64 n, .int .i64 z, .int .i64 t, .string ⟨e.toArray⟩, .int .i64 b] 56 (0, 0))) := Hv0.out
    have Bv1 := Lib.hid (belowDrewN Bv0.out qv1)
    clear Hv0 Bv0
    refine hK.out _ _ Hv1.out (fun _ => ?_)
    generalize v0.drewN qv1 = v1 at Hv1 Bv1 ⊢
    clear hK K
    try simp only [Act.put, List.setIfInBounds_toArray, List.set_cons_zero, List.set_cons_succ]
    refine wpAnyH_ready (rs := [3]) (by kernel_rfl) (by simp) ?_
    refine (AllReadyH.cons (o := { dst := some 12, op := _, type := _, pos := _, after := _, guard := _ }) rfl (fun K hK => ?_) AllReadyH.nil)
    rw [if_pos (by kernel_rfl)]
    refine wp_call_go Tryz.func78 (by kernel_rfl) (by kernel_rfl) (by rfl) (F1.out _) (by rfl) ?_
    rintro e v2 ⟨rfl, qv2, rfl⟩
    refine ⟨_, rfl, ?_⟩
    have Hv2 : Hid ((v1.drewN qv2).heap[w.heap.size]? = some (.cells #[.int .i64 n, .int .i64 z, .int .i64 t, .string ⟨e.toArray⟩, .int .i64 b] 56 (0, 0))) := Hv1.out
    have Bv2 := Lib.hid (belowDrewN Bv1.out qv2)
    clear Hv1 Bv1
    refine hK.out _ _ Hv2.out (fun _ => ?_)
    generalize v1.drewN qv2 = v2 at Hv2 Bv2 ⊢
    clear hK K
    try simp only [Act.put, List.setIfInBounds_toArray, List.set_cons_zero, List.set_cons_succ]
    refine wpAnyH_take (i := 4) (oi := { dst := some 13, op := _, type := _, pos := _, after := _, guard := _ }) (v := ?_) rfl (by kernel_rfl) (by kernel_rfl) (by kernel_rfl) (fun _ _ _ h => h) (Or.inl ⟨by kernel_rfl, ?_⟩) (by assumption) ?_
    rotate_left
    · (intro w hSw; (try dsimp only at hSw); go_simp); all_goals (with_reducible rfl)
    try simp only [Act.put, List.setIfInBounds_toArray, List.set_cons_zero, List.set_cons_succ]
    refine wpAnyH_ready (rs := [7]) (by kernel_rfl) (by simp) ?_
    refine (AllReadyH.cons (o := { dst := some 16, op := _, type := _, pos := _, after := _, guard := _ }) rfl (fun K hK => ?_) AllReadyH.nil)
    rw [if_pos (by kernel_rfl)]
    refine wp_call_go Tryz.func78 (by kernel_rfl) (by kernel_rfl) (by rfl) (F2.out _) (by rfl) ?_
    rintro e v3 ⟨rfl, qv3, rfl⟩
    refine ⟨_, rfl, ?_⟩
    have Hv3 : Hid ((v2.drewN qv3).heap[w.heap.size]? = some (.cells #[.int .i64 n, .int .i64 z, .int .i64 t, .string ⟨e.toArray⟩, .int .i64 b] 56 (0, 0))) := Hv2.out
    have Bv3 := Lib.hid (belowDrewN Bv2.out qv3)
    clear Hv2 Bv2
    refine hK.out _ _ Hv3.out (fun _ => ?_)
    generalize v2.drewN qv3 = v3 at Hv3 Bv3 ⊢
    clear hK K
    try simp only [Act.put, List.setIfInBounds_toArray, List.set_cons_zero, List.set_cons_succ]
    refine wpAnyH_take (i := 8) (oi := { dst := some 17, op := _, type := _, pos := _, after := _, guard := _ }) (v := ?_) rfl (by kernel_rfl) (by kernel_rfl) (by kernel_rfl) (fun _ _ _ h => h) (Or.inl ⟨by kernel_rfl, ?_⟩) (by assumption) ?_
    rotate_left
    · (intro w hSw; (try dsimp only at hSw); go_simp); all_goals (with_reducible rfl)
    try simp only [Act.put, List.setIfInBounds_toArray, List.set_cons_zero, List.set_cons_succ]
    refine wpAnyH_ready (rs := [11]) (by kernel_rfl) (by simp) ?_
    refine (AllReadyH.cons (o := { dst := some 20, op := _, type := _, pos := _, after := _, guard := _ }) rfl (fun K hK => ?_) AllReadyH.nil)
    rw [if_pos (by kernel_rfl)]
    refine wp_call_go Tryz.func78 (by kernel_rfl) (by kernel_rfl) (by rfl) (F3.out _) (by rfl) ?_
    rintro e v4 ⟨rfl, qv4, rfl⟩
    refine ⟨_, rfl, ?_⟩
    have Hv4 : Hid ((v3.drewN qv4).heap[w.heap.size]? = some (.cells #[.int .i64 n, .int .i64 z, .int .i64 t, .string ⟨e.toArray⟩, .int .i64 b] 56 (0, 0))) := Hv3.out
    have Bv4 := Lib.hid (belowDrewN Bv3.out qv4)
    clear Hv3 Bv3
    refine hK.out _ _ Hv4.out (fun _ => ?_)
    generalize v3.drewN qv4 = v4 at Hv4 Bv4 ⊢
    clear hK K
    try simp only [Act.put, List.setIfInBounds_toArray, List.set_cons_zero, List.set_cons_succ]
    refine wpAnyH_take (i := 12) (oi := { dst := some 21, op := _, type := _, pos := _, after := _, guard := _ }) (v := ?_) rfl (by kernel_rfl) (by kernel_rfl) (by kernel_rfl) (fun _ _ _ h => h) (Or.inl ⟨by kernel_rfl, ?_⟩) (by assumption) ?_
    rotate_left
    · (intro w hSw; (try dsimp only at hSw); go_simp); all_goals (with_reducible rfl)
    try simp only [Act.put, List.setIfInBounds_toArray, List.set_cons_zero, List.set_cons_succ]
    refine wpAnyH_ready (rs := [15]) (by kernel_rfl) (by simp) ?_
    refine (AllReadyH.cons (o := { dst := some 24, op := _, type := _, pos := _, after := _, guard := _ }) rfl (fun K hK => ?_) AllReadyH.nil)
    rw [if_pos (by kernel_rfl)]
    refine wp_call_go Tryz.func77 (by kernel_rfl) (by kernel_rfl) (by rfl) (F4.out _) (by rfl) ?_
    rintro e v5 ⟨rfl, qv5, rfl⟩
    refine ⟨_, rfl, ?_⟩
    have Hv5 : Hid ((v4.drewN qv5).heap[w.heap.size]? = some (.cells #[.int .i64 n, .int .i64 z, .int .i64 t, .string ⟨e.toArray⟩, .int .i64 b] 56 (0, 0))) := Hv4.out
    have Bv5 := Lib.hid (belowDrewN Bv4.out qv5)
    clear Hv4 Bv4
    refine hK.out _ _ Hv5.out (fun _ => ?_)
    generalize v4.drewN qv5 = v5 at Hv5 Bv5 ⊢
    clear hK K
    try simp only [Act.put, List.setIfInBounds_toArray, List.set_cons_zero, List.set_cons_succ]
    refine wpAnyH_take (i := 16) (oi := { dst := some 25, op := _, type := _, pos := _, after := _, guard := _ }) (v := ?_) rfl (by kernel_rfl) (by kernel_rfl) (by kernel_rfl) (fun _ _ _ h => h) (Or.inl ⟨by kernel_rfl, ?_⟩) (by assumption) ?_
    rotate_left
    · (intro w hSw; (try dsimp only at hSw); go_simp); all_goals (with_reducible rfl)
    try simp only [Act.put, List.setIfInBounds_toArray, List.set_cons_zero, List.set_cons_succ]
    refine wpAnyH_ready (rs := [19]) (by kernel_rfl) (by simp) ?_
    refine (AllReadyH.cons (o := { dst := some 28, op := _, type := _, pos := _, after := _, guard := _ }) rfl (fun K hK => ?_) AllReadyH.nil)
    rw [if_pos (by kernel_rfl)]
    refine wp_call_go Tryz.func78 (by kernel_rfl) (by kernel_rfl) (by rfl) (F5.out _) (by rfl) ?_
    rintro e v6 ⟨rfl, qv6, rfl⟩
    refine ⟨_, rfl, ?_⟩
    have Hv6 : Hid ((v5.drewN qv6).heap[w.heap.size]? = some (.cells #[.int .i64 n, .int .i64 z, .int .i64 t, .string ⟨e.toArray⟩, .int .i64 b] 56 (0, 0))) := Hv5.out
    have Bv6 := Lib.hid (belowDrewN Bv5.out qv6)
    clear Hv5 Bv5
    refine hK.out _ _ Hv6.out (fun _ => ?_)
    generalize v5.drewN qv6 = v6 at Hv6 Bv6 ⊢
    clear hK K
    try simp only [Act.put, List.setIfInBounds_toArray, List.set_cons_zero, List.set_cons_succ]
    refine wpAnyH_take (i := 20) (oi := { dst := some 29, op := _, type := _, pos := _, after := _, guard := _ }) (v := ?_) rfl (by kernel_rfl) (by kernel_rfl) (by kernel_rfl) (fun _ _ _ h => h) (Or.inl ⟨by kernel_rfl, ?_⟩) (by assumption) ?_
    rotate_left
    · (intro w hSw; (try dsimp only at hSw); go_simp); all_goals (with_reducible rfl)
    try simp only [Act.put, List.setIfInBounds_toArray, List.set_cons_zero, List.set_cons_succ]
    refine wpAnyH_take (i := 21) (oi := { dst := some 2, op := _, type := _, pos := _, after := _, guard := _ }) (v := ?_) rfl (by kernel_rfl) (by kernel_rfl) (by kernel_rfl) (fun _ _ _ h => h) (Or.inl ⟨by kernel_rfl, ?_⟩) (by assumption) ?_
    rotate_left
    · (intro w hSw; (try dsimp only at hSw); go_simp); all_goals (with_reducible rfl)
    try simp only [Act.put, List.setIfInBounds_toArray, List.set_cons_zero, List.set_cons_succ]
    refine wpAnyH_take (i := 22) (oi := { dst := some 3, op := _, type := _, pos := _, after := _, guard := _ }) (v := ?_) rfl (by kernel_rfl) (by kernel_rfl) (by kernel_rfl) (fun _ _ _ h => h) (Or.inl ⟨by kernel_rfl, ?_⟩) (by assumption) ?_
    rotate_left
    · (intro w hSw; (try dsimp only at hSw); go_simp); all_goals (with_reducible rfl)
    try simp only [Act.put, List.setIfInBounds_toArray, List.set_cons_zero, List.set_cons_succ]
    refine wpAnyH_done (by kernel_rfl) ?_ _
    go_wp2
    go_ret2
    refine ⟨ret_tup (b := ⟨X.toArray⟩) ?_, Bv6.out⟩
    rw [HE.out]
    simp only [← str_app]

end Go.Proofs.YtajmkkjlhmeolaaGreatDoor
