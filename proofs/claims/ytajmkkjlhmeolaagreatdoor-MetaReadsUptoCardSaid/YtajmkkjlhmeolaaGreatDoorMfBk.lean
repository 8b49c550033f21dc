/-
  storehouseref19: a bucket: is it right? its record: the walks. (Printed by wip/gen/mfbk.py.)
-/
import Derived.Test.YtajmkkjlhmeolaaGreatDoorMfVer
import Derived.Test.YtajmkkjlhmeolaaGreatDoorMtReadBk
namespace Go.Proofs.YtajmkkjlhmeolaaGreatDoor
open Go.RowKit Go.Lib Go.PlainAid

def rlB (r : RlV) : Bool := decide (r.id.length ≤ 100) && decide (r.pre.length ≤ 100) && decide (0 ≤ r.days) && decide (r.days ≤ 36500) && decide (0 ≤ r.nonc) && decide (r.nonc ≤ 36500) && decide (0 ≤ r.abort) && decide (r.abort ≤ 36500)
theorem rlB_iff (r : RlV) : rlB r = true ↔ RlRight r := by
  unfold rlB
  simp only [Bool.and_eq_true, decide_eq_true_eq]
  exact ⟨fun ⟨⟨⟨⟨⟨⟨⟨a, b⟩, c⟩, d⟩, e⟩, f⟩, g⟩, h⟩ => ⟨a, b, ⟨c, d⟩, ⟨e, f⟩, ⟨g, h⟩⟩, fun h => ⟨⟨⟨⟨⟨⟨⟨h.id, h.pre⟩, h.days.1⟩, h.days.2⟩, h.nonc.1⟩, h.nonc.2⟩, h.abort.1⟩, h.abort.2⟩⟩
def bkHB (p : BkV) : Bool := bucketB p.name && decide (0 ≤ p.when_ ∧ p.when_ ≤ 253402300799) && decide (p.owner.length ≤ 100) && decide (p.policy.length ≤ 4000) && decide (0 ≤ p.mode) && decide (p.mode ≤ 2) && decide (p.rules.length ≤ 10)
def bkRB (p : BkV) : Bool := bkHB p && p.rules.all rlB
theorem bkRB_iff (p : BkV) : bkRB p = true ↔ BkRight p := by
  unfold bkRB bkHB
  simp only [Bool.and_eq_true, decide_eq_true_eq, List.all_eq_true]
  exact ⟨fun ⟨⟨⟨⟨⟨⟨⟨a, b⟩, c⟩, d⟩, e⟩, f⟩, g⟩, h⟩ => ⟨a, c, d, b, ⟨e, f⟩, g, fun x hx => (rlB_iff x).1 (h x hx)⟩, fun h => ⟨⟨⟨⟨⟨⟨⟨h.name, h.when_⟩, h.owner⟩, h.policy⟩, h.mode.1⟩, h.mode.2⟩, h.len⟩, fun x hx => (rlB_iff x).2 (h.rules x hx)⟩⟩
/-- the rules of a slice, one by one -/
theorem rules_at {w : World} {l : List RlV} {a : Option Addr} {c : Nat} (h : SlAt w 6 (.slice a l.length c) (rlRows l)) : ∀ i r, l[i]? = some r → ∃ b off, a = some ⟨b, off, none⟩ ∧ ∀ j u, r.cells[j]? = some u → w.cell? ⟨b, off + i * 6 + j, none⟩ = some u := by
  obtain ⟨a', c', he, _, hc⟩ := h
  simp only [Value.slice.injEq] at he
  obtain ⟨rfl, _, rfl⟩ := he
  intro i r hr
  exact hc i r.cells (by simp [rlRows, hr])
theorem rl_form {w : World} {l : List RlV} {v : Value} (h : SlAt w 6 v (rlRows l)) : ∃ a c, v = .slice a l.length c := by
  obtain ⟨a, c, rfl, _⟩ := h
  exact ⟨a, c, by rw [rlRows_len]⟩
theorem rl_take_snoc {l : List RlV} {i : Nat} {x : RlV} (hx : l[i]? = some x) : (l.take (i + 1)).all rlB = ((l.take i).all rlB && rlB x) := by
  have hlt := (List.getElem?_eq_some_iff.1 hx).1
  have hv := (List.getElem?_eq_some_iff.1 hx).2
  rw [← List.take_append_getElem hlt, hv, List.all_append]
  simp

set_option maxHeartbeats 4000000 in
set_option maxRecDepth 100000 in
theorem rRightBk_any (p : BkV) (v : Value) (w : World) (hb : p.name.length ≤ 140737488351232) (hS : SlAt w 6 v (rlRows p.rules)) : Calls Tryz.prog 76 #[.agg (p.cells v)] w fun e w' => e = .returned (.bool (bkRB p)) ∧ Below w.heap.size w w' := by
  have HN := Lib.hid (fun W => rBucket_any p.name (by omega) W)
  have HI := Lib.hid (fun W => rIs_any p.when_ W)
  obtain ⟨a, c, rfl⟩ := rl_form hS
  have HC := Lib.hid (rules_at hS)
  clear hS hb
  obtain ⟨hd, hhd⟩ : ∃ x, Hid (bkHB p = x) := ⟨_, rfl⟩
  have HR : Hid (bkRB p = (hd && p.rules.all rlB)) := by show _ = _; unfold bkRB; rw [hhd.out]
  unfold bkHB at hhd
  obtain ⟨k1, k2, k3, y, m, l⟩ := p
  simp only [BkV.cells]
  simp only at HI HN hhd HR HC
  generalize decide (0 ≤ y ∧ y ≤ 253402300799) = tw at HI hhd
  generalize bucketB k1 = sb at HN hhd
  obtain ⟨W1, hW1⟩ : ∃ W1, W1 = w.alloc (.cells #[.string ⟨k1.toArray⟩, .string ⟨k2.toArray⟩, .string ⟨k3.toArray⟩, .int .i64 y, .int .i64 m, .slice a l.length c] 41) := ⟨_, rfl⟩
  have BA : Hid (Below w.heap.size w W1) := by show Below _ _ _; rw [hW1]; exact below_alloc (Below.refl _ _) (Nat.le_refl _) _
  have HA : Hid (W1.heap[w.heap.size]? = some (.cells #[.string ⟨k1.toArray⟩, .string ⟨k2.toArray⟩, .string ⟨k3.toArray⟩, .int .i64 y, .int .i64 m, .slice a l.length c] 41 (0, 0))) := by show _ = _; rw [hW1]; exact heap_alloc_new _ _
  obtain ⟨R, hR⟩ : ∃ R, Hid (bkRB ⟨k1, k2, k3, y, m, l⟩ = R) := ⟨_, rfl⟩
  rw [hR.out]
  have HRR := Lib.hid (hR.out.symm.trans HR.out)
  clear hR HR
  go_enter Tryz.func76, Tryz.ntmps76
  go_wp2_with fail
  rw [← hW1]
  have HW1 := Lib.hid hW1
  clear hW1
  refine (HN.out _).mono ?_
  rintro e w1 ⟨rfl, rfl⟩
  have c1 : W1.cell? ⟨w.heap.size, 1, none⟩ = some (.string ⟨k2.toArray⟩) := cell_of_heap HA.out
  have c2 : W1.cell? ⟨w.heap.size, 2, none⟩ = some (.string ⟨k3.toArray⟩) := cell_of_heap HA.out
  have c3 : W1.cell? ⟨w.heap.size, 3, none⟩ = some (.int .i64 y) := cell_of_heap HA.out
  have c4 : W1.cell? ⟨w.heap.size, 4, none⟩ = some (.int .i64 m) := cell_of_heap HA.out
  have c5 : W1.cell? ⟨w.heap.size, 5, none⟩ = some (.slice a l.length c) := cell_of_heap HA.out
  go_wp2_with fail
  refine (HI.out _).mono ?_
  rintro e w1 ⟨rfl, rfl⟩
  by_cases hh : hd = false
  · have hF : R = false := by rw [HRR.out, hh]; rfl
    have hF := Lib.hid hF
    subst hh
    go_wp2_with fail
    all_goals first
      | (exfalso
         have := hhd.out
         grind)
      | (go_ret
         try rw [hF.out]
         exact ⟨rfl, BA.out⟩)
  · have hh : hd = true := by simpa using hh
    subst hh
    have hx := hhd.out
    simp only [Bool.and_eq_true, decide_eq_true_eq] at hx
    obtain ⟨⟨⟨⟨⟨⟨rfl, rfl⟩, x3⟩, x4⟩, x5⟩, x6⟩, x7⟩ := hx
    have y3 : ¬ (100 : Int) < (k2.length : Int) := by omega
    have y4 : ¬ (4000 : Int) < (k3.length : Int) := by omega
    have y5 : ¬ m < 0 := by omega
    have y6 : ¬ (2 : Int) < m := by omega
    have y7 : ¬ (10 : Int) < (l.length : Int) := by omega
    clear hhd HN HI
    go_wp2
    clear c1 c2 c3 c4 c5
    go_loopg [5] l.length (fun gg s5 wr => ∃ (i : Nat), i ≤ l.length ∧ l.length - i ≤ gg ∧ s5 = .int .i64 i ∧ Hid ((l.take i).all rlB = true) ∧ Hid (wr.heap[w.heap.size]? = some (.cells #[.string ⟨k1.toArray⟩, .string ⟨k2.toArray⟩, .string ⟨k3.toArray⟩, .int .i64 y, .int .i64 m, .slice a l.length c] 41 (0, 0))) ∧ Hid (Below w.heap.size w wr))
    case atStart => exact ⟨0, by omega, by omega, rfl, rfl, HA, BA⟩
    case round =>
      obtain ⟨i, hin, hgg, rfl, HK, HX, HB⟩ := hrel
      have c5 : wr.cell? ⟨w.heap.size, 5, none⟩ = some (.slice a l.length c) := cell_of_heap HX.out
      clear HA BA
      by_cases hlt : i < l.length
      · obtain ⟨x, hx⟩ : ∃ x, l[i]? = some x := ⟨_, List.getElem?_eq_getElem hlt⟩
        obtain ⟨b, off, hae, hc⟩ := HC.out i x hx
        rw [hae] at c5
        have HAE := Lib.hid hae
        clear hae
        have hcc := fun j u hj => cell_later' HB.out (hc j u hj)
        have hltz : (i : Int) < (l.length : Int) := by omega
        have HX1 := Lib.hid hx
        clear hx hc
        obtain ⟨r1, r2, r3, r4, r5, r6⟩ := x
        have k0 := hcc 0 _ rfl
        have k1' := hcc 1 _ rfl
        have k2' := hcc 2 _ rfl
        have k3' := hcc 3 _ rfl
        have k4' := hcc 4 _ rfl
        have k5' := hcc 5 _ rfl
        simp only [Nat.add_zero] at k0
        have BW : Hid (Below w.heap.size w (wr.alloc (.cells #[.string ⟨r1.toArray⟩, .string ⟨r2.toArray⟩, .bool r3, .int .i64 r4, .int .i64 r5, .int .i64 r6] 104))) := HB.out.alloc HB.out.size _
        have HW : Hid ((wr.alloc (.cells #[.string ⟨r1.toArray⟩, .string ⟨r2.toArray⟩, .bool r3, .int .i64 r4, .int .i64 r5, .int .i64 r6] 104)).heap[w.heap.size]? = some (.cells #[.string ⟨k1.toArray⟩, .string ⟨k2.toArray⟩, .string ⟨k3.toArray⟩, .int .i64 y, .int .i64 m, .slice a l.length c] 41 (0, 0))) := (Below.heap_alloc _ _ _ (Array.getElem?_eq_some_iff.1 HX.out).1).trans HX.out
        clear hcc x3 x4 x5 x6
        go_wp2_with fail
        all_goals first
          | (go_roundg (l.length - (i + 1))
             case measure => omega
             case rel =>
               have hb : rlB ⟨r1, r2, r3, r4, r5, r6⟩ = true := by unfold rlB; grind
               exact ⟨i + 1, by omega, Nat.le_refl _, by go_num, by show _ = _; rw [rl_take_snoc HX1.out, HK.out, hb]; rfl, HW, BW⟩)
          | (go_ret
             have hb : rlB ⟨r1, r2, r3, r4, r5, r6⟩ = false := by unfold rlB; grind
             have hF : R = false := by
               have ha : l.all rlB = false := by
                 rw [List.all_eq_false]
                 exact ⟨_, List.mem_of_getElem? HX1.out, by rw [hb]; simp⟩
               rw [HRR.out, ha]; rfl
             rw [hF]
             exact ⟨rfl, BW.out⟩)
      · obtain rfl : i = l.length := by omega
        have ha : l.all rlB = true := by have := HK.out; rwa [List.take_length] at this
        have HM : Hid (R = true) := by show _ = _; rw [HRR.out, ha]; rfl
        clear HRR HK ha
        go_wp2
        go_ret
        try rw [HM.out]
        exact ⟨rfl, HB.out⟩

theorem rlL_len {r : RlV} (h : RlRight r) : (rlL r).length ≤ 500 := by
  have g1 := fieldL_len r.id (by have := h.id; omega)
  have g2 := fieldL_len r.pre (by have := h.pre; omega)
  have g3 := numL_len (n := flagN r.on) (by unfold flagN; split <;> omega) (by unfold flagN; split <;> omega)
  have g4 := numL_len (n := r.days) (by have := h.days; omega) (by have := h.days; omega)
  have g5 := numL_len (n := r.nonc) (by have := h.nonc; omega) (by have := h.nonc; omega)
  have g6 := numL_len (n := r.abort) (by have := h.abort; omega) (by have := h.abort; omega)
  have := h.id
  have := h.pre
  unfold rlL
  simp only [List.length_append]
  omega

set_option maxHeartbeats 4000000 in
set_option maxRecDepth 100000 in
theorem rBkText_any (p : BkV) (v : Value) (w : World) (hb : p.name.length ≤ 140737488351232) (hS : SlAt w 6 v (rlRows p.rules)) : Calls Tryz.prog 42 #[.agg (p.cells v)] w (RTextOut (bkL p) (bkRB p) w) := by
  have HR := Lib.hid (fun W (h : SlAt W 6 v (rlRows p.rules)) => rRightBk_any p v W hb h)
  have hiff := bkRB_iff p
  have BA : Hid (Below w.heap.size w (w.alloc (.cells (p.cells v) 41))) := below_alloc (Below.refl _ _) (Nat.le_refl _) _
  have HA : Hid ((w.alloc (.cells (p.cells v) 41)).heap[w.heap.size]? = some (.cells (p.cells v) 41 (0, 0))) := heap_alloc_new _ _
  have SA : Hid (SlAt (w.alloc (.cells (p.cells v) 41)) 6 v (rlRows p.rules)) := hS.later (below_alloc (Below.refl _ _) (Nat.le_refl _) _)
  obtain ⟨a, c, rfl⟩ := rl_form hS
  have HC := Lib.hid (rules_at hS)
  clear hS
  obtain ⟨R, hR⟩ : ∃ R, bkRB p = R := ⟨_, rfl⟩
  rw [hR] at HR hiff ⊢
  cases R with
  | false =>
    clear hiff hR
    obtain ⟨k1, k2, k3, y, m, l⟩ := p
    simp only [BkV.cells] at HR BA HA SA ⊢
    go_enter Tryz.func42, Tryz.ntmps42
    go_wp2_with (refine wpList_load_row (by rfl) 41 _ (by rfl) w.heap.size (by rfl) 41 _ (0, 0) _ (by exact HA.out) Tryz.underlying41 rfl (by kernel_rfl) ?_)
    refine (HR.out _ SA.out).mono ?_
    rintro e w1 ⟨rfl, hb1⟩
    have B1 := Lib.hid (BA.out.trans (hb1.mono BA.out.size))
    clear hb1
    go_wp2
    go_ret2
    exact ⟨rfl, B1.out⟩
  | true =>
    have hr := hiff.1 rfl
    have h1 := (bucket_bytes hr.name).1; have h2 := hr.owner; have h3 := hr.policy; have h4 := hr.when_; have h5 := hr.mode; have h6 := hr.len
    have HBL := Lib.hid hr.rules
    obtain ⟨H0, hH0⟩ : ∃ H0, H0 = fieldL [66] ++ fieldL p.name ++ fieldL p.owner ++ numL p.when_ ++ numL p.mode ++ fieldL p.policy ++ numL (p.rules.length : Int) := ⟨_, rfl⟩
    have HX : Hid (bkL p = H0 ++ p.rules.flatMap rlL) := by show _ = _; rw [hH0]; unfold bkL; simp
    have HE := Lib.hid hH0
    have F0 := Lib.hid (fun W => rField_any [66] (by simp) W)
    have F1 := Lib.hid (fun W => rField_any p.name (by omega) W)
    have F2 := Lib.hid (fun W => rField_any p.owner (by omega) W)
    have F3 := Lib.hid (fun W => rNumI_any (n := p.when_) (by omega) (by omega) W)
    have F4 := Lib.hid (fun W => rNumI_any (n := p.mode) (by omega) (by omega) W)
    have F5 := Lib.hid (fun W => rField_any p.policy (by omega) W)
    have F6 := Lib.hid (fun W => rNumI_any (n := (p.rules.length : Int)) (by omega) (by omega) W)
    have g0 := fieldL_len [66] (by simp)
    have g1 := fieldL_len p.name (by omega)
    have g2 := fieldL_len p.owner (by omega)
    have g3 := numL_len (n := p.when_) (by omega) (by omega)
    have g4 := numL_len (n := p.mode) (by omega) (by omega)
    have g5 := fieldL_len p.policy (by omega)
    have g6 := numL_len (n := (p.rules.length : Int)) (by omega) (by omega)
    simp only [List.length_cons, List.length_nil] at g0
    have gH : H0.length ≤ 5000 := by rw [hH0]; simp only [List.length_append]; omega
    clear hr hiff hR h4 h5 hH0
    obtain ⟨k1, k2, k3, y, m, l⟩ := p
    simp only at HE HX HBL F1 F2 F3 F4 F5 F6 g1 g2 g3 g4 g5 g6 h1 h2 h3 h6 HC
    simp only [BkV.cells] at HR BA HA SA ⊢
    generalize bkL ⟨k1, k2, k3, y, m, l⟩ = X at HX ⊢
    generalize fieldL [66] = X0 at HE F0 g0
    generalize fieldL k1 = X1 at HE F1 g1
    generalize fieldL k2 = X2 at HE F2 g2
    generalize numL y = X3 at HE F3 g3
    generalize numL m = X4 at HE F4 g4
    generalize fieldL k3 = X5 at HE F5 g5
    generalize numL (l.length : Int) = X6 at HE F6 g6
    have n1 : ¬ 9223372036854775807 < X0.length + X1.length := by omega
    have n2 : ¬ 9223372036854775807 < X0.length + X1.length + X2.length := by omega
    have n3 : ¬ 9223372036854775807 < X0.length + X1.length + X2.length + X3.length := by omega
    have n4 : ¬ 9223372036854775807 < X0.length + X1.length + X2.length + X3.length + X4.length := by omega
    have n5 : ¬ 9223372036854775807 < X0.length + X1.length + X2.length + X3.length + X4.length + X5.length := by omega
    have n6 : ¬ 9223372036854775807 < X0.length + X1.length + X2.length + X3.length + X4.length + X5.length + X6.length := by omega
    clear g0 g1 g2 g3 g4 g5 g6 h2 h3 hb
    go_enter Tryz.func42, Tryz.ntmps42
    go_wp2_with (refine wpList_load_row (by rfl) 41 _ (by rfl) w.heap.size (by rfl) 41 _ (0, 0) _ (by exact HA.out) Tryz.underlying41 rfl (by kernel_rfl) ?_)
    refine (HR.out _ SA.out).mono ?_
    rintro e w1 ⟨rfl, hb1⟩
    have Bw1 := Lib.hid (BA.out.trans (hb1.mono BA.out.size))
    have Hw1 := Lib.hid ((hb1.block _ (Array.getElem?_eq_some_iff.1 HA.out).1).trans HA.out)
    clear hb1 HR SA BA HA
    go_upto_region 4 with (fail)
    go_cut [5] (fun s5 wx => s5 = .string ⟨H0.toArray⟩ ∧ Hid (wx.heap[w.heap.size]? = some (.cells #[.string ⟨k1.toArray⟩, .string ⟨k2.toArray⟩, .string ⟨k3.toArray⟩, .int .i64 y, .int .i64 m, .slice a l.length c] 41 (0, 0))) ∧ Hid (Below w.heap.size w wx))
    case first =>
      refine wp_region_held_drew (S := (fun W : World => W.heap[w.heap.size]? = some (.cells #[.string ⟨k1.toArray⟩, .string ⟨k2.toArray⟩, .string ⟨k3.toArray⟩, .int .i64 y, .int .i64 m, .slice a l.length c] 41 (0, 0)))) (by kernel_rfl) Hw1.out (fun hS0 => ?_)
      have Hd : Hid (w1.drew.heap[w.heap.size]? = some (.cells #[.string ⟨k1.toArray⟩, .string ⟨k2.toArray⟩, .string ⟨k3.toArray⟩, .int .i64 y, .int .i64 m, .slice a l.length c] 41 (0, 0))) := Hw1.out
      have Bd := Lib.hid (Below.drew Bw1.out)
      generalize w1.drew = v0 at Hd Bd hS0 ⊢
      have Hv0 := Hd
      have Bv0 := Bd
      clear Hd Bd Hw1 Bw1
      refine wpAnyH_take (i := 1) (oi := { dst := some 13, op := _, type := _, pos := _, after := _, guard := _ }) (v := ?_) rfl (by kernel_rfl) (by kernel_rfl) (by kernel_rfl) (fun _ _ _ h => h) (Or.inl ⟨by kernel_rfl, ?_⟩) (by assumption) ?_
      rotate_left
      · (intro w hSw; (try dsimp only at hSw); go_simp); all_goals (with_reducible rfl)
      try simp only [Act.put, List.setIfInBounds_toArray, List.set_cons_zero, List.set_cons_succ]
      refine wpAnyH_take (i := 2) (oi := { dst := some 14, op := _, type := _, pos := _, after := _, guard := _ }) (v := ?_) rfl (by kernel_rfl) (by kernel_rfl) (by kernel_rfl) (fun _ _ _ h => h) (Or.inl ⟨by kernel_rfl, ?_⟩) (by assumption) ?_
      rotate_left
      · (intro w hSw; (try dsimp only at hSw); (have c0 := cell_of_heap (x := 0) hSw); (have c1 := cell_of_heap (x := 1) hSw); (have c2 := cell_of_heap (x := 2) hSw); (have c3 := cell_of_heap (x := 3) hSw); (have c4 := cell_of_heap (x := 4) hSw); (have c5 := cell_of_heap (x := 5) hSw); (simp at c0 c1 c2 c3 c4 c5); go_simp); all_goals (with_reducible rfl)
      try simp only [Act.put, List.setIfInBounds_toArray, List.set_cons_zero, List.set_cons_succ]
      refine wpAnyH_take (i := 5) (oi := { dst := some 17, op := _, type := _, pos := _, after := _, guard := _ }) (v := ?_) rfl (by kernel_rfl) (by kernel_rfl) (by kernel_rfl) (fun _ _ _ h => h) (Or.inl ⟨by kernel_rfl, ?_⟩) (by assumption) ?_
      rotate_left
      · (intro w hSw; (try dsimp only at hSw); go_simp); all_goals (with_reducible rfl)
      try simp only [Act.put, List.setIfInBounds_toArray, List.set_cons_zero, List.set_cons_succ]
      refine wpAnyH_take (i := 6) (oi := { dst := some 18, op := _, type := _, pos := _, after := _, guard := _ }) (v := ?_) rfl (by kernel_rfl) (by kernel_rfl) (by kernel_rfl) (fun _ _ _ h => h) (Or.inl ⟨by kernel_rfl, ?_⟩) (by assumption) ?_
      rotate_left
      · (intro w hSw; (try dsimp only at hSw); (have c0 := cell_of_heap (x := 0) hSw); (have c1 := cell_of_heap (x := 1) hSw); (have c2 := cell_of_heap (x := 2) hSw); (have c3 := cell_of_heap (x := 3) hSw); (have c4 := cell_of_heap (x := 4) hSw); (have c5 := cell_of_heap (x := 5) hSw); (simp at c0 c1 c2 c3 c4 c5); go_simp); all_goals (with_reducible rfl)
      try simp only [Act.put, List.setIfInBounds_toArray, List.set_cons_zero, List.set_cons_succ]
      refine wpAnyH_take (i := 9) (oi := { dst := some 21, op := _, type := _, pos := _, after := _, guard := _ }) (v := ?_) rfl (by kernel_rfl) (by kernel_rfl) (by kernel_rfl) (fun _ _ _ h => h) (Or.inl ⟨by kernel_rfl, ?_⟩) (by assumption) ?_
      rotate_left
      · (intro w hSw; (try dsimp only at hSw); go_simp); all_goals (with_reducible rfl)
      try simp only [Act.put, List.setIfInBounds_toArray, List.set_cons_zero, List.set_cons_succ]
      refine wpAnyH_take (i := 10) (oi := { dst := some 22, op := _, type := _, pos := _, after := _, guard := _ }) (v := ?_) rfl (by kernel_rfl) (by kernel_rfl) (by kernel_rfl) (fun _ _ _ h => h) (Or.inl ⟨by kernel_rfl, ?_⟩) (by assumption) ?_
      rotate_left
      · (intro w hSw; (try dsimp only at hSw); (have c0 := cell_of_heap (x := 0) hSw); (have c1 := cell_of_heap (x := 1) hSw); (have c2 := cell_of_heap (x := 2) hSw); (have c3 := cell_of_heap (x := 3) hSw); (have c4 := cell_of_heap (x := 4) hSw); (have c5 := cell_of_heap (x := 5) hSw); (simp at c0 c1 c2 c3 c4 c5); go_simp); all_goals (with_reducible rfl)
      try simp only [Act.put, List.setIfInBounds_toArray, List.set_cons_zero, List.set_cons_succ]
      refine wpAnyH_take (i := 13) (oi := { dst := some 25, op := _, type := _, pos := _, after := _, guard := _ }) (v := ?_) rfl (by kernel_rfl) (by kernel_rfl) (by kernel_rfl) (fun _ _ _ h => h) (Or.inl ⟨by kernel_rfl, ?_⟩) (by assumption) ?_
      rotate_left
      · (intro w hSw; (try dsimp only at hSw); go_simp); all_goals (with_reducible rfl)
      try simp only [Act.put, List.setIfInBounds_toArray, List.set_cons_zero, List.set_cons_succ]
      refine wpAnyH_take (i := 14) (oi := { dst := some 26, op := _, type := _, pos := _, after := _, guard := _ }) (v := ?_) rfl (by kernel_rfl) (by kernel_rfl) (by kernel_rfl) (fun _ _ _ h => h) (Or.inl ⟨by kernel_rfl, ?_⟩) (by assumption) ?_
      rotate_left
      · (intro w hSw; (try dsimp only at hSw); (have c0 := cell_of_heap (x := 0) hSw); (have c1 := cell_of_heap (x := 1) hSw); (have c2 := cell_of_heap (x := 2) hSw); (have c3 := cell_of_heap (x := 3) hSw); (have c4 := cell_of_heap (x := 4) hSw); (have c5 := cell_of_heap (x := 5) hSw); (simp at c0 c1 c2 c3 c4 c5); go_simp); all_goals (with_reducible rfl)
      try simp only [Act.put, List.setIfInBounds_toArray, List.set_cons_zero, List.set_cons_succ]
      refine wpAnyH_take (i := 17) (oi := { dst := some 29, op := _, type := _, pos := _, after := _, guard := _ }) (v := ?_) rfl (by kernel_rfl) (by kernel_rfl) (by kernel_rfl) (fun _ _ _ h => h) (Or.inl ⟨by kernel_rfl, ?_⟩) (by assumption) ?_
      rotate_left
      · (intro w hSw; (try dsimp only at hSw); go_simp); all_goals (with_reducible rfl)
      try simp only [Act.put, List.setIfInBounds_toArray, List.set_cons_zero, List.set_cons_succ]
      refine wpAnyH_take (i := 18) (oi := { dst := some 30, op := _, type := _, pos := _, after := _, guard := _ }) (v := ?_) rfl (by kernel_rfl) (by kernel_rfl) (by kernel_rfl) (fun _ _ _ h => h) (Or.inl ⟨by kernel_rfl, ?_⟩) (by assumption) ?_
      rotate_left
      · (intro w hSw; (try dsimp only at hSw); (have c0 := cell_of_heap (x := 0) hSw); (have c1 := cell_of_heap (x := 1) hSw); (have c2 := cell_of_heap (x := 2) hSw); (have c3 := cell_of_heap (x := 3) hSw); (have c4 := cell_of_heap (x := 4) hSw); (have c5 := cell_of_heap (x := 5) hSw); (simp at c0 c1 c2 c3 c4 c5); go_simp); all_goals (with_reducible rfl)
      try simp only [Act.put, List.setIfInBounds_toArray, List.set_cons_zero, List.set_cons_succ]
      refine wpAnyH_take (i := 21) (oi := { dst := some 33, op := _, type := _, pos := _, after := _, guard := _ }) (v := ?_) rfl (by kernel_rfl) (by kernel_rfl) (by kernel_rfl) (fun _ _ _ h => h) (Or.inl ⟨by kernel_rfl, ?_⟩) (by assumption) ?_
      rotate_left
      · (intro w hSw; (try dsimp only at hSw); go_simp); all_goals (with_reducible rfl)
      try simp only [Act.put, List.setIfInBounds_toArray, List.set_cons_zero, List.set_cons_succ]
      refine wpAnyH_take (i := 22) (oi := { dst := some 34, op := _, type := _, pos := _, after := _, guard := _ }) (v := ?_) rfl (by kernel_rfl) (by kernel_rfl) (by kernel_rfl) (fun _ _ _ h => h) (Or.inl ⟨by kernel_rfl, ?_⟩) (by assumption) ?_
      rotate_left
      · (intro w hSw; (try dsimp only at hSw); (have c0 := cell_of_heap (x := 0) hSw); (have c1 := cell_of_heap (x := 1) hSw); (have c2 := cell_of_heap (x := 2) hSw); (have c3 := cell_of_heap (x := 3) hSw); (have c4 := cell_of_heap (x := 4) hSw); (have c5 := cell_of_heap (x := 5) hSw); (simp at c0 c1 c2 c3 c4 c5); go_simp); all_goals (with_reducible rfl)
      try simp only [Act.put, List.setIfInBounds_toArray, List.set_cons_zero, List.set_cons_succ]
      refine wpAnyH_take (i := 23) (oi := { dst := some 35, op := _, type := _, pos := _, after := _, guard := _ }) (v := ?_) rfl (by kernel_rfl) (by kernel_rfl) (by kernel_rfl) (fun _ _ _ h => h) (Or.inl ⟨by kernel_rfl, ?_⟩) (by assumption) ?_
      rotate_left
      · (intro w hSw; (try dsimp only at hSw); go_simp); all_goals (with_reducible rfl)
      try simp only [Act.put, List.setIfInBounds_toArray, List.set_cons_zero, List.set_cons_succ]
      refine wpAnyH_ready (rs := [0]) (by kernel_rfl) (by simp) ?_
      refine (AllReadyH.cons (o := { dst := some 12, op := _, type := _, pos := _, after := _, guard := _ }) rfl (fun K hK => ?_) AllReadyH.nil)
      rw [if_pos (by kernel_rfl)]
      refine wp_call_go Tryz.func77 (by kernel_rfl) (by kernel_rfl) (by rfl) (F0.out _) (by rfl) ?_
      rintro e v1 ⟨rfl, qv1, rfl⟩
      refine ⟨_, rfl, ?_⟩
      have Hv1 : Hid ((v0.drewN qv1).heap[w.heap.size]? = some (.cells #[.string ⟨k1.toArray⟩, .string ⟨k2.toArray⟩, .string ⟨k3.toArray⟩, .int .i64 y, .int .i64 m, .slice a l.length c] 41 (0, 0))) := Hv0.out
      have Bv1 := Lib.hid (belowDrewN Bv0.out qv1)
      clear Hv0 Bv0
      refine hK.out _ _ Hv1.out (fun _ => ?_)
      generalize v0.drewN qv1 = v1 at Hv1 Bv1 ⊢
      clear hK K
      try simp only [Act.put, List.setIfInBounds_toArray, List.set_cons_zero, List.set_cons_succ]
      refine wpAnyH_ready (rs := [3]) (by kernel_rfl) (by simp) ?_
      refine (AllReadyH.cons (o := { dst := some 15, op := _, type := _, pos := _, after := _, guard := _ }) rfl (fun K hK => ?_) AllReadyH.nil)
      rw [if_pos (by kernel_rfl)]
      refine wp_call_go Tryz.func77 (by kernel_rfl) (by kernel_rfl) (by rfl) (F1.out _) (by rfl) ?_
      rintro e v2 ⟨rfl, qv2, rfl⟩
      refine ⟨_, rfl, ?_⟩
      have Hv2 : Hid ((v1.drewN qv2).heap[w.heap.size]? = some (.cells #[.string ⟨k1.toArray⟩, .string ⟨k2.toArray⟩, .string ⟨k3.toArray⟩, .int .i64 y, .int .i64 m, .slice a l.length c] 41 (0, 0))) := Hv1.out
      have Bv2 := Lib.hid (belowDrewN Bv1.out qv2)
      clear Hv1 Bv1
      refine hK.out _ _ Hv2.out (fun _ => ?_)
      generalize v1.drewN qv2 = v2 at Hv2 Bv2 ⊢
      clear hK K
      try simp only [Act.put, List.setIfInBounds_toArray, List.set_cons_zero, List.set_cons_succ]
      refine wpAnyH_take (i := 4) (oi := { dst := some 16, op := _, type := _, pos := _, after := _, guard := _ }) (v := ?_) rfl (by kernel_rfl) (by kernel_rfl) (by kernel_rfl) (fun _ _ _ h => h) (Or.inl ⟨by kernel_rfl, ?_⟩) (by assumption) ?_
      rotate_left
      · (intro w hSw; (try dsimp only at hSw); go_simp); all_goals (with_reducible rfl)
      try simp only [Act.put, List.setIfInBounds_toArray, List.set_cons_zero, List.set_cons_succ]
      refine wpAnyH_ready (rs := [7]) (by kernel_rfl) (by simp) ?_
      refine (AllReadyH.cons (o := { dst := some 19, op := _, type := _, pos := _, after := _, guard := _ }) rfl (fun K hK => ?_) AllReadyH.nil)
      rw [if_pos (by kernel_rfl)]
      refine wp_call_go Tryz.func77 (by kernel_rfl) (by kernel_rfl) (by rfl) (F2.out _) (by rfl) ?_
      rintro e v3 ⟨rfl, qv3, rfl⟩
      refine ⟨_, rfl, ?_⟩
      have Hv3 : Hid ((v2.drewN qv3).heap[w.heap.size]? = some (.cells #[.string ⟨k1.toArray⟩, .string ⟨k2.toArray⟩, .string ⟨k3.toArray⟩, .int .i64 y, .int .i64 m, .slice a l.length c] 41 (0, 0))) := Hv2.out
      have Bv3 := Lib.hid (belowDrewN Bv2.out qv3)
      clear Hv2 Bv2
      refine hK.out _ _ Hv3.out (fun _ => ?_)
      generalize v2.drewN qv3 = v3 at Hv3 Bv3 ⊢
      clear hK K
      try simp only [Act.put, List.setIfInBounds_toArray, List.set_cons_zero, List.set_cons_succ]
      refine wpAnyH_take (i := 8) (oi := { dst := some 20, op := _, type := _, pos := _, after := _, guard := _ }) (v := ?_) rfl (by kernel_rfl) (by kernel_rfl) (by kernel_rfl) (fun _ _ _ h => h) (Or.inl ⟨by kernel_rfl, ?_⟩) (by assumption) ?_
      rotate_left
      · (intro w hSw; (try dsimp only at hSw); go_simp); all_goals (with_reducible rfl)
      try simp only [Act.put, List.setIfInBounds_toArray, List.set_cons_zero, List.set_cons_succ]
      refine wpAnyH_ready (rs := [11]) (by kernel_rfl) (by simp) ?_
      refine (AllReadyH.cons (o := { dst := some 23, op := _, type := _, pos := _, after := _, guard := _ }) rfl (fun K hK => ?_) AllReadyH.nil)
      rw [if_pos (by kernel_rfl)]
      refine wp_call_go Tryz.func78 (by kernel_rfl) (by kernel_rfl) (by rfl) (F3.out _) (by rfl) ?_
      rintro e v4 ⟨rfl, qv4, rfl⟩
      refine ⟨_, rfl, ?_⟩
      have Hv4 : Hid ((v3.drewN qv4).heap[w.heap.size]? = some (.cells #[.string ⟨k1.toArray⟩, .string ⟨k2.toArray⟩, .string ⟨k3.toArray⟩, .int .i64 y, .int .i64 m, .slice a l.length c] 41 (0, 0))) := Hv3.out
      have Bv4 := Lib.hid (belowDrewN Bv3.out qv4)
      clear Hv3 Bv3
      refine hK.out _ _ Hv4.out (fun _ => ?_)
      generalize v3.drewN qv4 = v4 at Hv4 Bv4 ⊢
      clear hK K
      try simp only [Act.put, List.setIfInBounds_toArray, List.set_cons_zero, List.set_cons_succ]
      refine wpAnyH_take (i := 12) (oi := { dst := some 24, op := _, type := _, pos := _, after := _, guard := _ }) (v := ?_) rfl (by kernel_rfl) (by kernel_rfl) (by kernel_rfl) (fun _ _ _ h => h) (Or.inl ⟨by kernel_rfl, ?_⟩) (by assumption) ?_
      rotate_left
      · (intro w hSw; (try dsimp only at hSw); go_simp); all_goals (with_reducible rfl)
      try simp only [Act.put, List.setIfInBounds_toArray, List.set_cons_zero, List.set_cons_succ]
      refine wpAnyH_ready (rs := [15]) (by kernel_rfl) (by simp) ?_
      refine (AllReadyH.cons (o := { dst := some 27, op := _, type := _, pos := _, after := _, guard := _ }) rfl (fun K hK => ?_) AllReadyH.nil)
      rw [if_pos (by kernel_rfl)]
      refine wp_call_go Tryz.func78 (by kernel_rfl) (by kernel_rfl) (by rfl) (F4.out _) (by rfl) ?_
      rintro e v5 ⟨rfl, qv5, rfl⟩
      refine ⟨_, rfl, ?_⟩
      have Hv5 : Hid ((v4.drewN qv5).heap[w.heap.size]? = some (.cells #[.string ⟨k1.toArray⟩, .string ⟨k2.toArray⟩, .string ⟨k3.toArray⟩, .int .i64 y, .int .i64 m, .slice a l.length c] 41 (0, 0))) := Hv4.out
      have Bv5 := Lib.hid (belowDrewN Bv4.out qv5)
      clear Hv4 Bv4
      refine hK.out _ _ Hv5.out (fun _ => ?_)
      generalize v4.drewN qv5 = v5 at Hv5 Bv5 ⊢
      clear hK K
      try simp only [Act.put, List.setIfInBounds_toArray, List.set_cons_zero, List.set_cons_succ]
      refine wpAnyH_take (i := 16) (oi := { dst := some 28, op := _, type := _, pos := _, after := _, guard := _ }) (v := ?_) rfl (by kernel_rfl) (by kernel_rfl) (by kernel_rfl) (fun _ _ _ h => h) (Or.inl ⟨by kernel_rfl, ?_⟩) (by assumption) ?_
      rotate_left
      · (intro w hSw; (try dsimp only at hSw); go_simp); all_goals (with_reducible rfl)
      try simp only [Act.put, List.setIfInBounds_toArray, List.set_cons_zero, List.set_cons_succ]
      refine wpAnyH_ready (rs := [19]) (by kernel_rfl) (by simp) ?_
      refine (AllReadyH.cons (o := { dst := some 31, op := _, type := _, pos := _, after := _, guard := _ }) rfl (fun K hK => ?_) AllReadyH.nil)
      rw [if_pos (by kernel_rfl)]
      refine wp_call_go Tryz.func77 (by kernel_rfl) (by kernel_rfl) (by rfl) (F5.out _) (by rfl) ?_
      rintro e v6 ⟨rfl, qv6, rfl⟩
      refine ⟨_, rfl, ?_⟩
      have Hv6 : Hid ((v5.drewN qv6).heap[w.heap.size]? = some (.cells #[.string ⟨k1.toArray⟩, .string ⟨k2.toArray⟩, .string ⟨k3.toArray⟩, .int .i64 y, .int .i64 m, .slice a l.length c] 41 (0, 0))) := Hv5.out
      have Bv6 := Lib.hid (belowDrewN Bv5.out qv6)
      clear Hv5 Bv5
      refine hK.out _ _ Hv6.out (fun _ => ?_)
      generalize v5.drewN qv6 = v6 at Hv6 Bv6 ⊢
      clear hK K
      try simp only [Act.put, List.setIfInBounds_toArray, List.set_cons_zero, List.set_cons_succ]
      refine wpAnyH_take (i := 20) (oi := { dst := some 32, op := _, type := _, pos := _, after := _, guard := _ }) (v := ?_) rfl (by kernel_rfl) (by kernel_rfl) (by kernel_rfl) (fun _ _ _ h => h) (Or.inl ⟨by kernel_rfl, ?_⟩) (by assumption) ?_
      rotate_left
      · (intro w hSw; (try dsimp only at hSw); go_simp); all_goals (with_reducible rfl)
      try simp only [Act.put, List.setIfInBounds_toArray, List.set_cons_zero, List.set_cons_succ]
      refine wpAnyH_ready (rs := [24]) (by kernel_rfl) (by simp) ?_
      refine (AllReadyH.cons (o := { dst := some 36, op := _, type := _, pos := _, after := _, guard := _ }) rfl (fun K hK => ?_) AllReadyH.nil)
      rw [if_pos (by kernel_rfl)]
      refine wp_call_go Tryz.func78 (by kernel_rfl) (by kernel_rfl) (by rfl) (F6.out _) (by rfl) ?_
      rintro e v7 ⟨rfl, qv7, rfl⟩
      refine ⟨_, rfl, ?_⟩
      have Hv7 : Hid ((v6.drewN qv7).heap[w.heap.size]? = some (.cells #[.string ⟨k1.toArray⟩, .string ⟨k2.toArray⟩, .string ⟨k3.toArray⟩, .int .i64 y, .int .i64 m, .slice a l.length c] 41 (0, 0))) := Hv6.out
      have Bv7 := Lib.hid (belowDrewN Bv6.out qv7)
      clear Hv6 Bv6
      refine hK.out _ _ Hv7.out (fun _ => ?_)
      generalize v6.drewN qv7 = v7 at Hv7 Bv7 ⊢
      clear hK K
      try simp only [Act.put, List.setIfInBounds_toArray, List.set_cons_zero, List.set_cons_succ]
      refine wpAnyH_take (i := 25) (oi := { dst := some 37, op := _, type := _, pos := _, after := _, guard := _ }) (v := ?_) rfl (by kernel_rfl) (by kernel_rfl) (by kernel_rfl) (fun _ _ _ h => h) (Or.inl ⟨by kernel_rfl, ?_⟩) (by assumption) ?_
      rotate_left
      · (intro w hSw; (try dsimp only at hSw); go_simp); all_goals (with_reducible rfl)
      try simp only [Act.put, List.setIfInBounds_toArray, List.set_cons_zero, List.set_cons_succ]
      refine wpAnyH_take (i := 26) (oi := { dst := some 5, op := _, type := _, pos := _, after := _, guard := _ }) (v := ?_) rfl (by kernel_rfl) (by kernel_rfl) (by kernel_rfl) (fun _ _ _ h => h) (Or.inl ⟨by kernel_rfl, ?_⟩) (by assumption) ?_
      rotate_left
      · (intro w hSw; (try dsimp only at hSw); go_simp); all_goals (with_reducible rfl)
      try simp only [Act.put, List.setIfInBounds_toArray, List.set_cons_zero, List.set_cons_succ]
      refine wpAnyH_done (by kernel_rfl) ?_ _
      go_wp2_with fail
      go_meet
      case rel => exact ⟨by rw [HE.out]; simp only [← str_app], Hv7, Bv7⟩
    case rest =>
      obtain ⟨rfl, Hx, Bx⟩ := hcut
      obtain ⟨wx, rfl⟩ : ∃ wx : World, wx = wc := ⟨_, rfl⟩
      clear F0 F1 F2 F3 F4 F5 F6 n1 n2 n3 n4 n5 n6 HE
      go_wp2
      go_loopg [5, 6] l.length (fun gg s5 s6 wr => ∃ (i : Nat), i ≤ l.length ∧ l.length - i ≤ gg ∧ s5 = .string ⟨(H0 ++ (l.take i).flatMap rlL).toArray⟩ ∧ s6 = .int .i64 i ∧ ((l.take i).flatMap rlL).length ≤ 500 * i ∧ Hid (wr.heap[w.heap.size]? = some (.cells #[.string ⟨k1.toArray⟩, .string ⟨k2.toArray⟩, .string ⟨k3.toArray⟩, .int .i64 y, .int .i64 m, .slice a l.length c] 41 (0, 0))) ∧ Hid (Below w.heap.size w wr))
      case atStart => exact ⟨0, by omega, by omega, by simp, rfl, by simp, Hx, Bx⟩
      case round =>
        obtain ⟨i, hin, hgg, rfl, rfl, hlen, HK, HB⟩ := hrel
        have c5 : wr.cell? ⟨w.heap.size, 5, none⟩ = some (.slice a l.length c) := cell_of_heap HK.out
        by_cases hlt : i < l.length
        · obtain ⟨x, hx⟩ : ∃ x, l[i]? = some x := ⟨_, List.getElem?_eq_getElem hlt⟩
          obtain ⟨b, off, hae, hc⟩ := HC.out i x hx
          rw [hae] at c5
          have HAE := Lib.hid hae
          clear hae
          have hcc := fun j u hj => cell_later' HB.out (hc j u hj)
          have hltz : (i : Int) < (l.length : Int) := by omega
          have hxr := HBL.out x (List.mem_of_getElem? hx)
          have gx := rlL_len hxr
          have hsn : (l.take (i + 1)).flatMap rlL = (l.take i).flatMap rlL ++ rlL x := by
            rw [← List.take_append_getElem hlt, List.flatMap_append, (List.getElem?_eq_some_iff.1 hx).2]; simp
          have HSN := Lib.hid hsn
          clear hx hc hsn
          obtain ⟨r1, r2, r3, r4, r5, r6⟩ := x
          have x1 := hxr.id; have x2 := hxr.pre; have x4 := hxr.days; have x5 := hxr.nonc; have x6 := hxr.abort
          simp only at x1 x2 x4 x5 x6
          clear hxr
          have k0 := hcc 0 _ rfl
          have k1' := hcc 1 _ rfl
          have k2' := hcc 2 _ rfl
          have k3' := hcc 3 _ rfl
          have k4' := hcc 4 _ rfl
          have k5' := hcc 5 _ rfl
          simp only [Nat.add_zero] at k0
          clear hcc
          have G0 := Lib.hid (fun W => rField_any r1 (by omega) W)
          have G1 := Lib.hid (fun W => rField_any r2 (by omega) W)
          have G2 := Lib.hid (fun W => rFlag_any r3 W)
          have G3 := Lib.hid (fun W => rNumI_any (n := r4) (by omega) (by omega) W)
          have G4 := Lib.hid (fun W => rNumI_any (n := r5) (by omega) (by omega) W)
          have G5 := Lib.hid (fun W => rNumI_any (n := r6) (by omega) (by omega) W)
          have HRL : Hid (rlL ⟨r1, r2, r3, r4, r5, r6⟩ = fieldL r1 ++ (fieldL r2 ++ (numL (flagN r3) ++ (numL r4 ++ (numL r5 ++ numL r6))))) := rfl
          have hrl : (fieldL r1).length + (fieldL r2).length + (numL (flagN r3)).length + (numL r4).length + (numL r5).length + (numL r6).length ≤ 500 := by
            rw [HRL.out] at gx
            simp only [List.length_append] at gx
            omega
          generalize fieldL r1 = Y0 at G0 HRL hrl
          generalize fieldL r2 = Y1 at G1 HRL hrl
          generalize numL (flagN r3) = Y2 at G2 HRL hrl
          generalize numL r4 = Y3 at G3 HRL hrl
          generalize numL r5 = Y4 at G4 HRL hrl
          generalize numL r6 = Y5 at G5 HRL hrl
          obtain ⟨Z, hZ⟩ : ∃ Z, H0 ++ (l.take i).flatMap rlL = Z := ⟨_, rfl⟩
          have hZl : Z.length ≤ 10000 := by rw [← hZ, List.length_append]; omega
          have HZ := Lib.hid hZ
          rw [hZ]
          clear hZ x1 x2 x4 x5 x6
          have o1 : ¬ 9223372036854775807 < Z.length + Y0.length := by omega
          have o2 : ¬ 9223372036854775807 < Z.length + Y0.length + Y1.length := by omega
          have o3 : ¬ 9223372036854775807 < Z.length + Y0.length + Y1.length + Y2.length := by omega
          have o4 : ¬ 9223372036854775807 < Z.length + Y0.length + Y1.length + Y2.length + Y3.length := by omega
          have o5 : ¬ 9223372036854775807 < Z.length + Y0.length + Y1.length + Y2.length + Y3.length + Y4.length := by omega
          have o6 : ¬ 9223372036854775807 < Z.length + Y0.length + Y1.length + Y2.length + Y3.length + Y4.length + Y5.length := by omega
          have Bw2 : Hid (Below w.heap.size w (wr.alloc (.cells #[.string ⟨r1.toArray⟩, .string ⟨r2.toArray⟩, .bool r3, .int .i64 r4, .int .i64 r5, .int .i64 r6] 104))) := HB.out.alloc HB.out.size _
          have Dw2 : Hid ((wr.alloc (.cells #[.string ⟨r1.toArray⟩, .string ⟨r2.toArray⟩, .bool r3, .int .i64 r4, .int .i64 r5, .int .i64 r6] 104)).heap[w.heap.size]? = some (.cells #[.string ⟨k1.toArray⟩, .string ⟨k2.toArray⟩, .string ⟨k3.toArray⟩, .int .i64 y, .int .i64 m, .slice a l.length c] 41 (0, 0))) := (Below.heap_alloc _ _ _ (Array.getElem?_eq_some_iff.1 HK.out).1).trans HK.out
          have Hw2 : Hid ((wr.alloc (.cells #[.string ⟨r1.toArray⟩, .string ⟨r2.toArray⟩, .bool r3, .int .i64 r4, .int .i64 r5, .int .i64 r6] 104)).heap[wr.heap.size]? = some (.cells #[.string ⟨r1.toArray⟩, .string ⟨r2.toArray⟩, .bool r3, .int .i64 r4, .int .i64 r5, .int .i64 r6] 104 (0, 0))) := heap_alloc_new _ _
          clear hrl hZl
          go_upto_region 9 with (fail)
          clear k0 k1' k2' k3' k4' k5' c5
          generalize wr.alloc (.cells #[.string ⟨r1.toArray⟩, .string ⟨r2.toArray⟩, .bool r3, .int .i64 r4, .int .i64 r5, .int .i64 r6] 104) = w2 at Bw2 Dw2 Hw2 ⊢
          generalize wr.heap.size = gR at Hw2 ⊢
          refine wp_region_held_drew (S := (fun W : World => W.heap[gR]? = some (.cells #[.string ⟨r1.toArray⟩, .string ⟨r2.toArray⟩, .bool r3, .int .i64 r4, .int .i64 r5, .int .i64 r6] 104 (0, 0)))) (by kernel_rfl) Hw2.out (fun hS0 => ?_)
          have Hd : Hid (w2.drew.heap[gR]? = some (.cells #[.string ⟨r1.toArray⟩, .string ⟨r2.toArray⟩, .bool r3, .int .i64 r4, .int .i64 r5, .int .i64 r6] 104 (0, 0))) := Hw2.out
          have Bd := Lib.hid (Below.drew Bw2.out)
          have Dd : Hid (w2.drew.heap[w.heap.size]? = some (.cells #[.string ⟨k1.toArray⟩, .string ⟨k2.toArray⟩, .string ⟨k3.toArray⟩, .int .i64 y, .int .i64 m, .slice a l.length c] 41 (0, 0))) := Dw2.out
          generalize w2.drew = u0 at Hd Bd Dd hS0 ⊢
          have Hu0 := Hd
          have Bu0 := Bd
          have Du0 := Dd
          clear Hd Bd Dd Hw2 Bw2 Dw2
          refine wpAnyH_take (i := 0) (oi := { dst := some 50, op := _, type := _, pos := _, after := _, guard := _ }) (v := ?_) rfl (by kernel_rfl) (by kernel_rfl) (by kernel_rfl) (fun _ _ _ h => h) (Or.inl ⟨by kernel_rfl, ?_⟩) (by assumption) ?_
          rotate_left
          · (intro w hSw; (try dsimp only at hSw); go_simp); all_goals (with_reducible rfl)
          try simp only [Act.put, List.setIfInBounds_toArray, List.set_cons_zero, List.set_cons_succ]
          refine wpAnyH_take (i := 1) (oi := { dst := some 51, op := _, type := _, pos := _, after := _, guard := _ }) (v := ?_) rfl (by kernel_rfl) (by kernel_rfl) (by kernel_rfl) (fun _ _ _ h => h) (Or.inl ⟨by kernel_rfl, ?_⟩) (by assumption) ?_
          rotate_left
          · (intro w hSw; (try dsimp only at hSw); go_simp); all_goals (with_reducible rfl)
          try simp only [Act.put, List.setIfInBounds_toArray, List.set_cons_zero, List.set_cons_succ]
          refine wpAnyH_take (i := 2) (oi := { dst := some 52, op := _, type := _, pos := _, after := _, guard := _ }) (v := ?_) rfl (by kernel_rfl) (by kernel_rfl) (by kernel_rfl) (fun _ _ _ h => h) (Or.inl ⟨by kernel_rfl, ?_⟩) (by assumption) ?_
          rotate_left
          · (intro w hSw; (try dsimp only at hSw); (have c0 := cell_of_heap (x := 0) hSw); (have c1 := cell_of_heap (x := 1) hSw); (have c2 := cell_of_heap (x := 2) hSw); (have c3 := cell_of_heap (x := 3) hSw); (have c4 := cell_of_heap (x := 4) hSw); (have c5 := cell_of_heap (x := 5) hSw); (simp at c0 c1 c2 c3 c4 c5); go_simp); all_goals (with_reducible rfl)
          try simp only [Act.put, List.setIfInBounds_toArray, List.set_cons_zero, List.set_cons_succ]
          refine wpAnyH_take (i := 5) (oi := { dst := some 55, op := _, type := _, pos := _, after := _, guard := _ }) (v := ?_) rfl (by kernel_rfl) (by kernel_rfl) (by kernel_rfl) (fun _ _ _ h => h) (Or.inl ⟨by kernel_rfl, ?_⟩) (by assumption) ?_
          rotate_left
          · (intro w hSw; (try dsimp only at hSw); go_simp); all_goals (with_reducible rfl)
          try simp only [Act.put, List.setIfInBounds_toArray, List.set_cons_zero, List.set_cons_succ]
          refine wpAnyH_take (i := 6) (oi := { dst := some 56, op := _, type := _, pos := _, after := _, guard := _ }) (v := ?_) rfl (by kernel_rfl) (by kernel_rfl) (by kernel_rfl) (fun _ _ _ h => h) (Or.inl ⟨by kernel_rfl, ?_⟩) (by assumption) ?_
          rotate_left
          · (intro w hSw; (try dsimp only at hSw); (have c0 := cell_of_heap (x := 0) hSw); (have c1 := cell_of_heap (x := 1) hSw); (have c2 := cell_of_heap (x := 2) hSw); (have c3 := cell_of_heap (x := 3) hSw); (have c4 := cell_of_heap (x := 4) hSw); (have c5 := cell_of_heap (x := 5) hSw); (simp at c0 c1 c2 c3 c4 c5); go_simp); all_goals (with_reducible rfl)
          try simp only [Act.put, List.setIfInBounds_toArray, List.set_cons_zero, List.set_cons_succ]
          refine wpAnyH_take (i := 9) (oi := { dst := some 59, op := _, type := _, pos := _, after := _, guard := _ }) (v := ?_) rfl (by kernel_rfl) (by kernel_rfl) (by kernel_rfl) (fun _ _ _ h => h) (Or.inl ⟨by kernel_rfl, ?_⟩) (by assumption) ?_
          rotate_left
          · (intro w hSw; (try dsimp only at hSw); go_simp); all_goals (with_reducible rfl)
          try simp only [Act.put, List.setIfInBounds_toArray, List.set_cons_zero, List.set_cons_succ]
          refine wpAnyH_take (i := 10) (oi := { dst := some 60, op := _, type := _, pos := _, after := _, guard := _ }) (v := ?_) rfl (by kernel_rfl) (by kernel_rfl) (by kernel_rfl) (fun _ _ _ h => h) (Or.inl ⟨by kernel_rfl, ?_⟩) (by assumption) ?_
          rotate_left
          · (intro w hSw; (try dsimp only at hSw); (have c0 := cell_of_heap (x := 0) hSw); (have c1 := cell_of_heap (x := 1) hSw); (have c2 := cell_of_heap (x := 2) hSw); (have c3 := cell_of_heap (x := 3) hSw); (have c4 := cell_of_heap (x := 4) hSw); (have c5 := cell_of_heap (x := 5) hSw); (simp at c0 c1 c2 c3 c4 c5); go_simp); all_goals (with_reducible rfl)
          try simp only [Act.put, List.setIfInBounds_toArray, List.set_cons_zero, List.set_cons_succ]
          refine wpAnyH_take (i := 13) (oi := { dst := some 63, op := _, type := _, pos := _, after := _, guard := _ }) (v := ?_) rfl (by kernel_rfl) (by kernel_rfl) (by kernel_rfl) (fun _ _ _ h => h) (Or.inl ⟨by kernel_rfl, ?_⟩) (by assumption) ?_
          rotate_left
          · (intro w hSw; (try dsimp only at hSw); go_simp); all_goals (with_reducible rfl)
          try simp only [Act.put, List.setIfInBounds_toArray, List.set_cons_zero, List.set_cons_succ]
          refine wpAnyH_take (i := 14) (oi := { dst := some 64, op := _, type := _, pos := _, after := _, guard := _ }) (v := ?_) rfl (by kernel_rfl) (by kernel_rfl) (by kernel_rfl) (fun _ _ _ h => h) (Or.inl ⟨by kernel_rfl, ?_⟩) (by assumption) ?_
          rotate_left
          · (intro w hSw; (try dsimp only at hSw); (have c0 := cell_of_heap (x := 0) hSw); (have c1 := cell_of_heap (x := 1) hSw); (have c2 := cell_of_heap (x := 2) hSw); (have c3 := cell_of_heap (x := 3) hSw); (have c4 := cell_of_heap (x := 4) hSw); (have c5 := cell_of_heap (x := 5) hSw); (simp at c0 c1 c2 c3 c4 c5); go_simp); all_goals (with_reducible rfl)
          try simp only [Act.put, List.setIfInBounds_toArray, List.set_cons_zero, List.set_cons_succ]
          refine wpAnyH_take (i := 17) (oi := { dst := some 67, op := _, type := _, pos := _, after := _, guard := _ }) (v := ?_) rfl (by kernel_rfl) (by kernel_rfl) (by kernel_rfl) (fun _ _ _ h => h) (Or.inl ⟨by kernel_rfl, ?_⟩) (by assumption) ?_
          rotate_left
          · (intro w hSw; (try dsimp only at hSw); go_simp); all_goals (with_reducible rfl)
          try simp only [Act.put, List.setIfInBounds_toArray, List.set_cons_zero, List.set_cons_succ]
          refine wpAnyH_take (i := 18) (oi := { dst := some 68, op := _, type := _, pos := _, after := _, guard := _ }) (v := ?_) rfl (by kernel_rfl) (by kernel_rfl) (by kernel_rfl) (fun _ _ _ h => h) (Or.inl ⟨by kernel_rfl, ?_⟩) (by assumption) ?_
          rotate_left
          · (intro w hSw; (try dsimp only at hSw); (have c0 := cell_of_heap (x := 0) hSw); (have c1 := cell_of_heap (x := 1) hSw); (have c2 := cell_of_heap (x := 2) hSw); (have c3 := cell_of_heap (x := 3) hSw); (have c4 := cell_of_heap (x := 4) hSw); (have c5 := cell_of_heap (x := 5) hSw); (simp at c0 c1 c2 c3 c4 c5); go_simp); all_goals (with_reducible rfl)
          try simp only [Act.put, List.setIfInBounds_toArray, List.set_cons_zero, List.set_cons_succ]
          refine wpAnyH_take (i := 21) (oi := { dst := some 71, op := _, type := _, pos := _, after := _, guard := _ }) (v := ?_) rfl (by kernel_rfl) (by kernel_rfl) (by kernel_rfl) (fun _ _ _ h => h) (Or.inl ⟨by kernel_rfl, ?_⟩) (by assumption) ?_
          rotate_left
          · (intro w hSw; (try dsimp only at hSw); go_simp); all_goals (with_reducible rfl)
          try simp only [Act.put, List.setIfInBounds_toArray, List.set_cons_zero, List.set_cons_succ]
          refine wpAnyH_take (i := 22) (oi := { dst := some 72, op := _, type := _, pos := _, after := _, guard := _ }) (v := ?_) rfl (by kernel_rfl) (by kernel_rfl) (by kernel_rfl) (fun _ _ _ h => h) (Or.inl ⟨by kernel_rfl, ?_⟩) (by assumption) ?_
          rotate_left
          · (intro w hSw; (try dsimp only at hSw); (have c0 := cell_of_heap (x := 0) hSw); (have c1 := cell_of_heap (x := 1) hSw); (have c2 := cell_of_heap (x := 2) hSw); (have c3 := cell_of_heap (x := 3) hSw); (have c4 := cell_of_heap (x := 4) hSw); (have c5 := cell_of_heap (x := 5) hSw); (simp at c0 c1 c2 c3 c4 c5); go_simp); all_goals (with_reducible rfl)
          try simp only [Act.put, List.setIfInBounds_toArray, List.set_cons_zero, List.set_cons_succ]
          refine wpAnyH_ready (rs := [3]) (by kernel_rfl) (by simp) ?_
          refine (AllReadyH.cons (o := { dst := some 53, op := _, type := _, pos := _, after := _, guard := _ }) rfl (fun K hK => ?_) AllReadyH.nil)
          rw [if_pos (by kernel_rfl)]
          refine wp_call_go Tryz.func77 (by kernel_rfl) (by kernel_rfl) (by rfl) (G0.out _) (by rfl) ?_
          rintro e u1 ⟨rfl, qu1, rfl⟩
          refine ⟨_, rfl, ?_⟩
          have Hu1 : Hid ((u0.drewN qu1).heap[gR]? = some (.cells #[.string ⟨r1.toArray⟩, .string ⟨r2.toArray⟩, .bool r3, .int .i64 r4, .int .i64 r5, .int .i64 r6] 104 (0, 0))) := Hu0.out
          have Bu1 := Lib.hid (belowDrewN Bu0.out qu1)
          have Du1 : Hid ((u0.drewN qu1).heap[w.heap.size]? = some (.cells #[.string ⟨k1.toArray⟩, .string ⟨k2.toArray⟩, .string ⟨k3.toArray⟩, .int .i64 y, .int .i64 m, .slice a l.length c] 41 (0, 0))) := Du0.out
          clear Hu0 Bu0 Du0
          refine hK.out _ _ Hu1.out (fun _ => ?_)
          generalize u0.drewN qu1 = u1 at Hu1 Bu1 Du1 ⊢
          clear hK K
          try simp only [Act.put, List.setIfInBounds_toArray, List.set_cons_zero, List.set_cons_succ]
          refine wpAnyH_take (i := 4) (oi := { dst := some 54, op := _, type := _, pos := _, after := _, guard := _ }) (v := ?_) rfl (by kernel_rfl) (by kernel_rfl) (by kernel_rfl) (fun _ _ _ h => h) (Or.inl ⟨by kernel_rfl, ?_⟩) (by assumption) ?_
          rotate_left
          · (intro w hSw; (try dsimp only at hSw); go_simp); all_goals (with_reducible rfl)
          try simp only [Act.put, List.setIfInBounds_toArray, List.set_cons_zero, List.set_cons_succ]
          refine wpAnyH_ready (rs := [7]) (by kernel_rfl) (by simp) ?_
          refine (AllReadyH.cons (o := { dst := some 57, op := _, type := _, pos := _, after := _, guard := _ }) rfl (fun K hK => ?_) AllReadyH.nil)
          rw [if_pos (by kernel_rfl)]
          refine wp_call_go Tryz.func77 (by kernel_rfl) (by kernel_rfl) (by rfl) (G1.out _) (by rfl) ?_
          rintro e u2 ⟨rfl, qu2, rfl⟩
          refine ⟨_, rfl, ?_⟩
          have Hu2 : Hid ((u1.drewN qu2).heap[gR]? = some (.cells #[.string ⟨r1.toArray⟩, .string ⟨r2.toArray⟩, .bool r3, .int .i64 r4, .int .i64 r5, .int .i64 r6] 104 (0, 0))) := Hu1.out
          have Bu2 := Lib.hid (belowDrewN Bu1.out qu2)
          have Du2 : Hid ((u1.drewN qu2).heap[w.heap.size]? = some (.cells #[.string ⟨k1.toArray⟩, .string ⟨k2.toArray⟩, .string ⟨k3.toArray⟩, .int .i64 y, .int .i64 m, .slice a l.length c] 41 (0, 0))) := Du1.out
          clear Hu1 Bu1 Du1
          refine hK.out _ _ Hu2.out (fun _ => ?_)
          generalize u1.drewN qu2 = u2 at Hu2 Bu2 Du2 ⊢
          clear hK K
          try simp only [Act.put, List.setIfInBounds_toArray, List.set_cons_zero, List.set_cons_succ]
          refine wpAnyH_take (i := 8) (oi := { dst := some 58, op := _, type := _, pos := _, after := _, guard := _ }) (v := ?_) rfl (by kernel_rfl) (by kernel_rfl) (by kernel_rfl) (fun _ _ _ h => h) (Or.inl ⟨by kernel_rfl, ?_⟩) (by assumption) ?_
          rotate_left
          · (intro w hSw; (try dsimp only at hSw); go_simp); all_goals (with_reducible rfl)
          try simp only [Act.put, List.setIfInBounds_toArray, List.set_cons_zero, List.set_cons_succ]
          refine wpAnyH_ready (rs := [11]) (by kernel_rfl) (by simp) ?_
          refine (AllReadyH.cons (o := { dst := some 61, op := _, type := _, pos := _, after := _, guard := _ }) rfl (fun K hK => ?_) AllReadyH.nil)
          rw [if_pos (by kernel_rfl)]
          refine wp_call_go Tryz.func79 (by kernel_rfl) (by kernel_rfl) (by rfl) (G2.out _) (by rfl) ?_
          rintro e u3 ⟨rfl, qu3, rfl⟩
          refine ⟨_, rfl, ?_⟩
          have Hu3 : Hid ((u2.drewN qu3).heap[gR]? = some (.cells #[.string ⟨r1.toArray⟩, .string ⟨r2.toArray⟩, .bool r3, .int .i64 r4, .int .i64 r5, .int .i64 r6] 104 (0, 0))) := Hu2.out
          have Bu3 := Lib.hid (belowDrewN Bu2.out qu3)
          have Du3 : Hid ((u2.drewN qu3).heap[w.heap.size]? = some (.cells #[.string ⟨k1.toArray⟩, .string ⟨k2.toArray⟩, .string ⟨k3.toArray⟩, .int .i64 y, .int .i64 m, .slice a l.length c] 41 (0, 0))) := Du2.out
          clear Hu2 Bu2 Du2
          refine hK.out _ _ Hu3.out (fun _ => ?_)
          generalize u2.drewN qu3 = u3 at Hu3 Bu3 Du3 ⊢
          clear hK K
          try simp only [Act.put, List.setIfInBounds_toArray, List.set_cons_zero, List.set_cons_succ]
          refine wpAnyH_take (i := 12) (oi := { dst := some 62, op := _, type := _, pos := _, after := _, guard := _ }) (v := ?_) rfl (by kernel_rfl) (by kernel_rfl) (by kernel_rfl) (fun _ _ _ h => h) (Or.inl ⟨by kernel_rfl, ?_⟩) (by assumption) ?_
          rotate_left
          · (intro w hSw; (try dsimp only at hSw); go_simp); all_goals (with_reducible rfl)
          try simp only [Act.put, List.setIfInBounds_toArray, List.set_cons_zero, List.set_cons_succ]
          refine wpAnyH_ready (rs := [15]) (by kernel_rfl) (by simp) ?_
          refine (AllReadyH.cons (o := { dst := some 65, op := _, type := _, pos := _, after := _, guard := _ }) rfl (fun K hK => ?_) AllReadyH.nil)
          rw [if_pos (by kernel_rfl)]
          refine wp_call_go Tryz.func78 (by kernel_rfl) (by kernel_rfl) (by rfl) (G3.out _) (by rfl) ?_
          rintro e u4 ⟨rfl, qu4, rfl⟩
          refine ⟨_, rfl, ?_⟩
          have Hu4 : Hid ((u3.drewN qu4).heap[gR]? = some (.cells #[.string ⟨r1.toArray⟩, .string ⟨r2.toArray⟩, .bool r3, .int .i64 r4, .int .i64 r5, .int .i64 r6] 104 (0, 0))) := Hu3.out
          have Bu4 := Lib.hid (belowDrewN Bu3.out qu4)
          have Du4 : Hid ((u3.drewN qu4).heap[w.heap.size]? = some (.cells #[.string ⟨k1.toArray⟩, .string ⟨k2.toArray⟩, .string ⟨k3.toArray⟩, .int .i64 y, .int .i64 m, .slice a l.length c] 41 (0, 0))) := Du3.out
          clear Hu3 Bu3 Du3
          refine hK.out _ _ Hu4.out (fun _ => ?_)
          generalize u3.drewN qu4 = u4 at Hu4 Bu4 Du4 ⊢
          clear hK K
          try simp only [Act.put, List.setIfInBounds_toArray, List.set_cons_zero, List.set_cons_succ]
          refine wpAnyH_take (i := 16) (oi := { dst := some 66, op := _, type := _, pos := _, after := _, guard := _ }) (v := ?_) rfl (by kernel_rfl) (by kernel_rfl) (by kernel_rfl) (fun _ _ _ h => h) (Or.inl ⟨by kernel_rfl, ?_⟩) (by assumption) ?_
          rotate_left
          · (intro w hSw; (try dsimp only at hSw); go_simp); all_goals (with_reducible rfl)
          try simp only [Act.put, List.setIfInBounds_toArray, List.set_cons_zero, List.set_cons_succ]
          refine wpAnyH_ready (rs := [19]) (by kernel_rfl) (by simp) ?_
          refine (AllReadyH.cons (o := { dst := some 69, op := _, type := _, pos := _, after := _, guard := _ }) rfl (fun K hK => ?_) AllReadyH.nil)
          rw [if_pos (by kernel_rfl)]
          refine wp_call_go Tryz.func78 (by kernel_rfl) (by kernel_rfl) (by rfl) (G4.out _) (by rfl) ?_
          rintro e u5 ⟨rfl, qu5, rfl⟩
          refine ⟨_, rfl, ?_⟩
          have Hu5 : Hid ((u4.drewN qu5).heap[gR]? = some (.cells #[.string ⟨r1.toArray⟩, .string ⟨r2.toArray⟩, .bool r3, .int .i64 r4, .int .i64 r5, .int .i64 r6] 104 (0, 0))) := Hu4.out
          have Bu5 := Lib.hid (belowDrewN Bu4.out qu5)
          have Du5 : Hid ((u4.drewN qu5).heap[w.heap.size]? = some (.cells #[.string ⟨k1.toArray⟩, .string ⟨k2.toArray⟩, .string ⟨k3.toArray⟩, .int .i64 y, .int .i64 m, .slice a l.length c] 41 (0, 0))) := Du4.out
          clear Hu4 Bu4 Du4
          refine hK.out _ _ Hu5.out (fun _ => ?_)
          generalize u4.drewN qu5 = u5 at Hu5 Bu5 Du5 ⊢
          clear hK K
          try simp only [Act.put, List.setIfInBounds_toArray, List.set_cons_zero, List.set_cons_succ]
          refine wpAnyH_take (i := 20) (oi := { dst := some 70, op := _, type := _, pos := _, after := _, guard := _ }) (v := ?_) rfl (by kernel_rfl) (by kernel_rfl) (by kernel_rfl) (fun _ _ _ h => h) (Or.inl ⟨by kernel_rfl, ?_⟩) (by assumption) ?_
          rotate_left
          · (intro w hSw; (try dsimp only at hSw); go_simp); all_goals (with_reducible rfl)
          try simp only [Act.put, List.setIfInBounds_toArray, List.set_cons_zero, List.set_cons_succ]
          refine wpAnyH_ready (rs := [23]) (by kernel_rfl) (by simp) ?_
          refine (AllReadyH.cons (o := { dst := some 73, op := _, type := _, pos := _, after := _, guard := _ }) rfl (fun K hK => ?_) AllReadyH.nil)
          rw [if_pos (by kernel_rfl)]
          refine wp_call_go Tryz.func78 (by kernel_rfl) (by kernel_rfl) (by rfl) (G5.out _) (by rfl) ?_
          rintro e u6 ⟨rfl, qu6, rfl⟩
          refine ⟨_, rfl, ?_⟩
          have Hu6 : Hid ((u5.drewN qu6).heap[gR]? = some (.cells #[.string ⟨r1.toArray⟩, .string ⟨r2.toArray⟩, .bool r3, .int .i64 r4, .int .i64 r5, .int .i64 r6] 104 (0, 0))) := Hu5.out
          have Bu6 := Lib.hid (belowDrewN Bu5.out qu6)
          have Du6 : Hid ((u5.drewN qu6).heap[w.heap.size]? = some (.cells #[.string ⟨k1.toArray⟩, .string ⟨k2.toArray⟩, .string ⟨k3.toArray⟩, .int .i64 y, .int .i64 m, .slice a l.length c] 41 (0, 0))) := Du5.out
          clear Hu5 Bu5 Du5
          refine hK.out _ _ Hu6.out (fun _ => ?_)
          generalize u5.drewN qu6 = u6 at Hu6 Bu6 Du6 ⊢
          clear hK K
          try simp only [Act.put, List.setIfInBounds_toArray, List.set_cons_zero, List.set_cons_succ]
          refine wpAnyH_take (i := 24) (oi := { dst := some 74, op := _, type := _, pos := _, after := _, guard := _ }) (v := ?_) rfl (by kernel_rfl) (by kernel_rfl) (by kernel_rfl) (fun _ _ _ h => h) (Or.inl ⟨by kernel_rfl, ?_⟩) (by assumption) ?_
          rotate_left
          · (intro w hSw; (try dsimp only at hSw); go_simp); all_goals (with_reducible rfl)
          try simp only [Act.put, List.setIfInBounds_toArray, List.set_cons_zero, List.set_cons_succ]
          refine wpAnyH_take (i := 25) (oi := { dst := some 5, op := _, type := _, pos := _, after := _, guard := _ }) (v := ?_) rfl (by kernel_rfl) (by kernel_rfl) (by kernel_rfl) (fun _ _ _ h => h) (Or.inl ⟨by kernel_rfl, ?_⟩) (by assumption) ?_
          rotate_left
          · (intro w hSw; (try dsimp only at hSw); go_simp); all_goals (with_reducible rfl)
          try simp only [Act.put, List.setIfInBounds_toArray, List.set_cons_zero, List.set_cons_succ]
          refine wpAnyH_done (by kernel_rfl) ?_ _
          go_wp2
          go_roundg (l.length - (i + 1))
          case measure => omega
          case rel =>
            refine ⟨i + 1, by omega, Nat.le_refl _, ?_, by go_num, ?_, Du6, Bu6⟩
            · rw [HSN.out, ← List.append_assoc, HZ.out, HRL.out]
              simp only [← List.append_assoc, ← str_app]
            · rw [HSN.out, List.length_append]; omega
        · obtain rfl : i = l.length := by omega
          rw [List.take_length] at *
          go_wp2
          go_ret2
          refine ⟨ret_tup (b := ⟨X.toArray⟩) ?_, HB.out⟩
          rw [HX.out]

end Go.Proofs.YtajmkkjlhmeolaaGreatDoor
