/-
  storehouseref19: a version: is it right? its record: the walks. (Printed by wip/gen/mfver.py.)
-/
import Derived.Test.YtajmkkjlhmeolaaGreatDoorMfText
import Derived.Test.YtajmkkjlhmeolaaGreatDoorMtReadVer
namespace Go.Proofs.YtajmkkjlhmeolaaGreatDoor
open Go.RowKit Go.Lib Go.PlainAid

def seqB (x : Int) : Bool := decide (1 ≤ x ∧ x ≤ 9007199254740991)
def verHB (p : VerV) : Bool := seqB p.seq && decide (0 ≤ p.when_ ∧ p.when_ ≤ 253402300799) && decide (p.etag.length ≤ 100) && decide (p.type.length ≤ 200) && decide (0 ≤ p.size) && decide (p.size ≤ 9007199254740991) && decide (p.blobs.length ≤ 20)
def verMB (p : VerV) : Bool := !p.marker || (decide (p.size = 0) && decide (p.blobs.length = 0) && p.etag.isEmpty && p.type.isEmpty)
def verRB (p : VerV) : Bool := verHB p && p.blobs.all seqB && verMB p
theorem verRB_iff (p : VerV) : verRB p = true ↔ VerRight p := by
  unfold verRB verHB verMB seqB
  simp only [Bool.and_eq_true, Bool.or_eq_true, decide_eq_true_eq, List.all_eq_true, Bool.not_eq_true', List.isEmpty_iff]
  constructor
  · rintro ⟨⟨⟨⟨⟨⟨⟨⟨a, b⟩, c⟩, d⟩, e⟩, f⟩, g⟩, h⟩, k⟩
    refine ⟨a, c, d, ⟨e, f⟩, b, g, h, fun hm => ?_⟩
    rcases k with k | ⟨⟨⟨k1, k2⟩, k3⟩, k4⟩
    · rw [hm] at k; cases k
    · exact ⟨k1, List.eq_nil_of_length_eq_zero k2, k3, k4⟩
  · intro h
    refine ⟨⟨⟨⟨⟨⟨⟨⟨h.seq, h.when_⟩, h.etag⟩, h.type⟩, h.size.1⟩, h.size.2⟩, h.len⟩, h.blobs⟩, ?_⟩
    cases hm : p.marker with
    | false => exact .inl rfl
    | true =>
      obtain ⟨k1, k2, k3, k4⟩ := h.mark hm
      exact .inr ⟨⟨⟨k1, by rw [k2]; rfl⟩, k3⟩, k4⟩
theorem cell_later' {w w' : World} (hb : Below w.heap.size w w') {g o : Nat} {u : Value} (h : w.cell? ⟨g, o, none⟩ = some u) : w'.cell? ⟨g, o, none⟩ = some u := by
  rw [World.cell?_of_block (w := w) (hb.block g (World.block_lt_of_cell? w _ h))]; exact h
/-- the numbers of a slice, one by one -/
theorem ints_at {w : World} {l : List Int} {a : Option Addr} {c : Nat} (h : SlAt w 1 (.slice a l.length c) (intRows l)) : ∀ i x, l[i]? = some x → ∃ b off, a = some ⟨b, off, none⟩ ∧ w.cell? ⟨b, off + i, none⟩ = some (.int .i64 x) := by
  obtain ⟨a', c', he, _, hc⟩ := h
  simp only [Value.slice.injEq] at he
  obtain ⟨rfl, _, rfl⟩ := he
  intro i x hx
  obtain ⟨b, off, hb, hu⟩ := hc i [.int .i64 x] (by simp [intRows, hx])
  exact ⟨b, off, hb, by have := hu 0 _ rfl; simpa using this⟩
theorem sl_form {w : World} {l : List Int} {v : Value} (h : SlAt w 1 v (intRows l)) : ∃ a c, v = .slice a l.length c := by
  obtain ⟨a, c, rfl, _⟩ := h
  exact ⟨a, c, by rw [intRows_len]⟩
theorem all_take_snoc {l : List Int} {i : Nat} {x : Int} (hx : l[i]? = some x) : (l.take (i + 1)).all seqB = ((l.take i).all seqB && seqB x) := by
  have hlt := (List.getElem?_eq_some_iff.1 hx).1
  have hv := (List.getElem?_eq_some_iff.1 hx).2
  rw [← List.take_append_getElem hlt, hv, List.all_append]
  simp

set_option maxHeartbeats 4000000 in
set_option maxRecDepth 100000 in
theorem rRightVer_any (p : VerV) (v : Value) (w : World) (hS : SlAt w 1 v (intRows p.blobs)) : Calls Tryz.prog 80 #[.agg (p.cells v)] w fun e w' => e = .returned (.bool (verRB p)) ∧ Below w.heap.size w w' := by
  have HI := Lib.hid (fun W => rIs_any p.when_ W)
  have HS := Lib.hid (fun W => rSeq_any p.seq W)
  have HQ := Lib.hid (fun x W => rSeq_any x W)
  obtain ⟨a, c, rfl⟩ := sl_form hS
  have HC := Lib.hid (ints_at hS)
  clear hS
  obtain ⟨hd, hhd⟩ : ∃ x, Hid (verHB p = x) := ⟨_, rfl⟩
  have HR : Hid (verRB p = (hd && p.blobs.all seqB && verMB p)) := by show _ = _; unfold verRB; rw [hhd.out]
  unfold verHB seqB at hhd
  obtain ⟨q, u, m, e, t, z, y, l⟩ := p
  simp only [VerV.cells]
  simp only at HI HS hhd HR HC
  generalize decide (0 ≤ y ∧ y ≤ 253402300799) = tw at HI hhd
  generalize decide (1 ≤ q ∧ q ≤ 9007199254740991) = sb at HS hhd
  obtain ⟨W1, hW1⟩ : ∃ W1, W1 = w.alloc (.cells #[.int .i64 q, .bool u, .bool m, .string ⟨e.toArray⟩, .string ⟨t.toArray⟩, .int .i64 z, .int .i64 y, .slice a l.length c] 47) := ⟨_, rfl⟩
  have BA : Hid (Below w.heap.size w W1) := by show Below _ _ _; rw [hW1]; exact below_alloc (Below.refl _ _) (Nat.le_refl _) _
  have HA : Hid (W1.heap[w.heap.size]? = some (.cells #[.int .i64 q, .bool u, .bool m, .string ⟨e.toArray⟩, .string ⟨t.toArray⟩, .int .i64 z, .int .i64 y, .slice a l.length c] 47 (0, 0))) := by show _ = _; rw [hW1]; exact heap_alloc_new _ _
  obtain ⟨R, hR⟩ : ∃ R, Hid (verRB ⟨q, u, m, e, t, z, y, l⟩ = R) := ⟨_, rfl⟩
  rw [hR.out]
  have HRR := Lib.hid (hR.out.symm.trans HR.out)
  clear hR HR
  go_enter Tryz.func80, Tryz.ntmps80
  go_wp2_with fail
  rw [← hW1]
  have HW1 := Lib.hid hW1
  clear hW1
  refine (HI.out _).mono ?_
  rintro e w1 ⟨rfl, rfl⟩
  have c0 : W1.cell? ⟨w.heap.size, 0, none⟩ = some (.int .i64 q) := cell_of_heap HA.out
  have c2 : W1.cell? ⟨w.heap.size, 2, none⟩ = some (.bool m) := cell_of_heap HA.out
  have c3 : W1.cell? ⟨w.heap.size, 3, none⟩ = some (.string ⟨e.toArray⟩) := cell_of_heap HA.out
  have c4 : W1.cell? ⟨w.heap.size, 4, none⟩ = some (.string ⟨t.toArray⟩) := cell_of_heap HA.out
  have c5 : W1.cell? ⟨w.heap.size, 5, none⟩ = some (.int .i64 z) := cell_of_heap HA.out
  have c7 : W1.cell? ⟨w.heap.size, 7, none⟩ = some (.slice a l.length c) := cell_of_heap HA.out
  go_wp2_with fail
  refine (HS.out _).mono ?_
  rintro e w1 ⟨rfl, rfl⟩
  by_cases hh : hd = false
  · have hF : R = false := by rw [HRR.out, hh]; rfl
    have hF := Lib.hid hF
    subst hh
    go_wp2_with fail
    all_goals first
      | (exfalso
         have := hhd.out
         grind)
      | (go_ret
         try rw [hF.out]
         exact ⟨rfl, BA.out⟩)
  · have hh : hd = true := by simpa using hh
    subst hh
    have hx := hhd.out
    simp only [Bool.and_eq_true, decide_eq_true_eq] at hx
    obtain ⟨⟨⟨⟨⟨⟨rfl, rfl⟩, x3⟩, x4⟩, x5⟩, x6⟩, x7⟩ := hx
    have y3 : ¬ (100 : Int) < (e.length : Int) := by omega
    have y4 : ¬ (200 : Int) < (t.length : Int) := by omega
    have y5 : ¬ z < 0 := by omega
    have y6 : ¬ (9007199254740991 : Int) < z := by omega
    have y7 : ¬ (20 : Int) < (l.length : Int) := by omega
    clear hhd HS HI
    go_wp2
    go_loopg [4] l.length (fun gg s4 wr => ∃ (i : Nat), i ≤ l.length ∧ l.length - i ≤ gg ∧ s4 = .int .i64 i ∧ Hid ((l.take i).all seqB = true) ∧ wr = W1)
    case atStart => exact ⟨0, by omega, by omega, rfl, rfl, rfl⟩
    case round =>
      obtain ⟨i, hin, hgg, rfl, HK, rfl⟩ := hrel
      by_cases hlt : i < l.length
      · obtain ⟨x, hx⟩ : ∃ x, l[i]? = some x := ⟨_, List.getElem?_eq_getElem hlt⟩
        obtain ⟨b, off, rfl, hc⟩ := HC.out i x hx
        have k0 := cell_later' BA.out hc
        have hltz : (i : Int) < (l.length : Int) := by omega
        have HX := Lib.hid hx
        have hsx : decide (1 ≤ x ∧ x ≤ 9007199254740991) = seqB x := rfl
        have HQX := Lib.hid (fun W => HQ.out x W)
        rw [hsx] at HQX
        clear hx hc hsx
        go_wp2_with fail
        refine (HQX.out _).mono ?_
        rintro e w2 ⟨rfl, rfl⟩
        obtain ⟨sx, hsx⟩ : ∃ s, seqB x = s := ⟨_, rfl⟩
        rw [hsx]
        cases sx with
        | false =>
          have hF : R = false := by
            have ha : l.all seqB = false := by
              rw [List.all_eq_false]
              exact ⟨x, List.mem_of_getElem? HX.out, by rw [hsx]; simp⟩
            rw [HRR.out, ha]; simp
          have hF := Lib.hid hF
          clear hsx
          go_wp2
          go_ret
          rw [hF.out]
          exact ⟨rfl, BA.out⟩
        | true =>
          have hN : (l.take (i + 1)).all seqB = true := by rw [all_take_snoc HX.out, HK.out, hsx]; rfl
          have hN := Lib.hid hN
          clear hsx
          go_wp2
          go_roundg (l.length - (i + 1))
          case measure => omega
          case rel => exact ⟨i + 1, by omega, Nat.le_refl _, by go_num, hN, rfl⟩
      · obtain rfl : i = l.length := by omega
        have ha : l.all seqB = true := by have := HK.out; rwa [List.take_length] at this
        have HM : Hid (R = verMB ⟨q, u, m, e, t, z, y, l⟩) := by show _ = _; rw [HRR.out, ha]; simp
        unfold verMB at HM
        simp only at HM
        clear HRR HK ha
        cases m with
        | false =>
          go_wp2
          go_ret
          rw [HM.out]
          exact ⟨rfl, BA.out⟩
        | true =>
          simp only [Bool.not_true, Bool.false_or] at HM
          by_cases z0 : z = 0
          · subst z0
            cases l with
            | cons x0 l0 =>
              have hl0 : ¬ (((x0 :: l0).length : Int) = 0) := by simp; omega
              have hl1 : (((x0 :: l0).length : Int) == 0) = false := by rw [beq_eq_false_iff_ne]; exact hl0
              go_wp2
              go_ret
              rw [HM.out]
              exact ⟨by simp, BA.out⟩
            | nil =>
              cases e with
              | cons e0 e1 =>
                go_wp2
                go_ret
                rw [HM.out]
                exact ⟨by simp, BA.out⟩
              | nil =>
                cases t with
                | cons t0 t1 =>
                  go_wp2
                  go_ret
                  rw [HM.out]
                  exact ⟨by simp, BA.out⟩
                | nil =>
                  go_wp2
                  go_ret
                  rw [HM.out]
                  exact ⟨by simp, BA.out⟩
          · have z1 : (z == 0) = false := by rw [beq_eq_false_iff_ne]; exact z0
            go_wp2
            go_ret
            rw [HM.out]
            exact ⟨by simp [z0], BA.out⟩

set_option maxHeartbeats 4000000 in
set_option maxRecDepth 100000 in
theorem rVerText_any (p : VerV) (v : Value) (w : World) (hS : SlAt w 1 v (intRows p.blobs)) : Calls Tryz.prog 43 #[.agg (p.cells v)] w (RTextOut (verL p) (verRB p) w) := by
  have HR := Lib.hid (fun W (h : SlAt W 1 v (intRows p.blobs)) => rRightVer_any p v W h)
  have hiff := verRB_iff p
  have BA : Hid (Below w.heap.size w (w.alloc (.cells (p.cells v) 47))) := below_alloc (Below.refl _ _) (Nat.le_refl _) _
  have HA : Hid ((w.alloc (.cells (p.cells v) 47)).heap[w.heap.size]? = some (.cells (p.cells v) 47 (0, 0))) := heap_alloc_new _ _
  have SA : Hid (SlAt (w.alloc (.cells (p.cells v) 47)) 1 v (intRows p.blobs)) := hS.later (below_alloc (Below.refl _ _) (Nat.le_refl _) _)
  obtain ⟨a, c, rfl⟩ := sl_form hS
  have HC := Lib.hid (ints_at hS)
  clear hS
  obtain ⟨R, hR⟩ : ∃ R, verRB p = R := ⟨_, rfl⟩
  rw [hR] at HR hiff ⊢
  cases R with
  | false =>
    clear hiff hR
    obtain ⟨q, u, m, e, t, z, y, l⟩ := p
    simp only [VerV.cells] at HR BA HA SA ⊢
    go_enter Tryz.func43, Tryz.ntmps43
    go_wp2_with (refine wpList_load_row (by rfl) 47 _ (by rfl) w.heap.size (by rfl) 47 _ (0, 0) _ (by exact HA.out) Tryz.underlying47 rfl (by kernel_rfl) ?_)
    refine (HR.out _ SA.out).mono ?_
    rintro e w1 ⟨rfl, hb1⟩
    have B1 := Lib.hid (BA.out.trans (hb1.mono BA.out.size))
    clear hb1
    go_wp2
    go_ret2
    exact ⟨rfl, B1.out⟩
  | true =>
    have hr := hiff.1 rfl
    have h1 := hr.seq; have h2 := hr.etag; have h3 := hr.type; have h4 := hr.size; have h5 := hr.when_; have h6 := hr.len
    have HBL := Lib.hid hr.blobs
    obtain ⟨H0, hH0⟩ : ∃ H0, H0 = fieldL [86] ++ numL p.seq ++ numL (flagN p.null) ++ numL (flagN p.marker) ++ fieldL p.etag ++ fieldL p.type ++ numL p.size ++ numL p.when_ ++ numL (p.blobs.length : Int) := ⟨_, rfl⟩
    have HX : Hid (verL p = H0 ++ p.blobs.flatMap numL) := by show _ = _; rw [hH0]; unfold verL; simp
    have HE := Lib.hid hH0
    have F0 := Lib.hid (fun W => rField_any [86] (by simp) W)
    have F1 := Lib.hid (fun W => rNumI_any (n := p.seq) (by omega) (by omega) W)
    have F2 := Lib.hid (fun W => rFlag_any p.null W)
    have F3 := Lib.hid (fun W => rFlag_any p.marker W)
    have F4 := Lib.hid (fun W => rField_any p.etag (by omega) W)
    have F5 := Lib.hid (fun W => rField_any p.type (by omega) W)
    have F6 := Lib.hid (fun W => rNumI_any (n := p.size) (by omega) (by omega) W)
    have F7 := Lib.hid (fun W => rNumI_any (n := p.when_) (by omega) (by omega) W)
    have F8 := Lib.hid (fun W => rNumI_any (n := (p.blobs.length : Int)) (by omega) (by omega) W)
    have FN := Lib.hid (fun (x : Int) (h : 0 ≤ x ∧ x ≤ 9223372036854775807) W => rNumI_any (n := x) h.1 h.2 W)
    have g0 := fieldL_len [86] (by simp)
    have g1 := numL_len (n := p.seq) (by omega) (by omega)
    have g2 := numL_len (n := flagN p.null) (by unfold flagN; split <;> omega) (by unfold flagN; split <;> omega)
    have g3 := numL_len (n := flagN p.marker) (by unfold flagN; split <;> omega) (by unfold flagN; split <;> omega)
    have g4 := fieldL_len p.etag (by omega)
    have g5 := fieldL_len p.type (by omega)
    have g6 := numL_len (n := p.size) (by omega) (by omega)
    have g7 := numL_len (n := p.when_) (by omega) (by omega)
    have g8 := numL_len (n := (p.blobs.length : Int)) (by omega) (by omega)
    have gH : H0.length ≤ 2000 := by rw [hH0]; simp only [List.length_append]; simp only [List.length_cons, List.length_nil] at g0; omega
    simp only [List.length_cons, List.length_nil] at g0
    clear hr hiff hR h1 h4 h5 hH0
    obtain ⟨q, u, m, e, t, z, y, l⟩ := p
    simp only at HE HX HBL F1 F2 F3 F4 F5 F6 F7 F8 g1 g2 g3 g4 g5 g6 g7 g8 h2 h3 h6 HC
    simp only [VerV.cells] at HR BA HA SA ⊢
    generalize verL ⟨q, u, m, e, t, z, y, l⟩ = X at HX ⊢
    generalize fieldL [86] = X0 at HE F0 g0
    generalize numL q = X1 at HE F1 g1
    generalize numL (flagN u) = X2 at HE F2 g2
    generalize numL (flagN m) = X3 at HE F3 g3
    generalize fieldL e = X4 at HE F4 g4
    generalize fieldL t = X5 at HE F5 g5
    generalize numL z = X6 at HE F6 g6
    generalize numL y = X7 at HE F7 g7
    generalize numL (l.length : Int) = X8 at HE F8 g8
    have n1 : ¬ 9223372036854775807 < X0.length + X1.length := by omega
    have n2 : ¬ 9223372036854775807 < X0.length + X1.length + X2.length := by omega
    have n3 : ¬ 9223372036854775807 < X0.length + X1.length + X2.length + X3.length := by omega
    have n4 : ¬ 9223372036854775807 < X0.length + X1.length + X2.length + X3.length + X4.length := by omega
    have n5 : ¬ 9223372036854775807 < X0.length + X1.length + X2.length + X3.length + X4.length + X5.length := by omega
    have n6 : ¬ 9223372036854775807 < X0.length + X1.length + X2.length + X3.length + X4.length + X5.length + X6.length := by omega
    have n7 : ¬ 9223372036854775807 < X0.length + X1.length + X2.length + X3.length + X4.length + X5.length + X6.length + X7.length := by omega
    have n8 : ¬ 9223372036854775807 < X0.length + X1.length + X2.length + X3.length + X4.length + X5.length + X6.length + X7.length + X8.length := by omega
    clear g0 g1 g2 g3 g4 g5 g6 g7 g8 h2 h3
    go_enter Tryz.func43, Tryz.ntmps43
    go_wp2_with (refine wpList_load_row (by rfl) 47 _ (by rfl) w.heap.size (by rfl) 47 _ (0, 0) _ (by exact HA.out) Tryz.underlying47 rfl (by kernel_rfl) ?_)
    refine (HR.out _ SA.out).mono ?_
    rintro e w1 ⟨rfl, hb1⟩
    have Bw1 := Lib.hid (BA.out.trans (hb1.mono BA.out.size))
    have Hw1 := Lib.hid ((hb1.block _ (Array.getElem?_eq_some_iff.1 HA.out).1).trans HA.out)
    clear hb1 HR SA BA HA
    go_upto_region 4 with (fail)
    go_cut [5] (fun s5 wx => s5 = .string ⟨H0.toArray⟩ ∧ Hid (wx.heap[w.heap.size]? = some (.cells #[.int .i64 q, .bool u, .bool m, .string ⟨e.toArray⟩, .string ⟨t.toArray⟩, .int .i64 z, .int .i64 y, .slice a l.length c] 47 (0, 0))) ∧ Hid (Below w.heap.size w wx))
    case first =>
      refine wp_region_held_drew (S := (fun W : World => W.heap[w.heap.size]? = some (.cells #[.int .i64 q, .bool u, .bool m, .string ⟨e.toArray⟩, .string ⟨t.toArray⟩, .int .i64 z, .int .i64 y, .slice a l.length c] 47 (0, 0)))) (by kernel_rfl) Hw1.out (fun hS0 => ?_)
      have Hd : Hid (w1.drew.heap[w.heap.size]? = some (.cells #[.int .i64 q, .bool u, .bool m, .string ⟨e.toArray⟩, .string ⟨t.toArray⟩, .int .i64 z, .int .i64 y, .slice a l.length c] 47 (0, 0))) := Hw1.out
      have Bd := Lib.hid (Below.drew Bw1.out)
      generalize w1.drew = v0 at Hd Bd hS0 ⊢
      have Hv0 := Hd
      have Bv0 := Bd
      clear Hd Bd Hw1 Bw1
      refine wpAnyH_take (i := 1) (oi := { dst := some 12, op := _, type := _, pos := _, after := _, guard := _ }) (v := ?_) rfl (by kernel_rfl) (by kernel_rfl) (by kernel_rfl) (fun _ _ _ h => h) (Or.inl ⟨by kernel_rfl, ?_⟩) (by assumption) ?_
      rotate_left
      · (intro w hSw; (try dsimp only at hSw); go_simp); all_goals (with_reducible rfl)
      try simp only [Act.put, List.setIfInBounds_toArray, List.set_cons_zero, List.set_cons_succ]
      refine wpAnyH_take (i := 2) (oi := { dst := some 13, op := _, type := _, pos := _, after := _, guard := _ }) (v := ?_) rfl (by kernel_rfl) (by kernel_rfl) (by kernel_rfl) (fun _ _ _ h => h) (Or.inl ⟨by kernel_rfl, ?_⟩) (by assumption) ?_
      rotate_left
      · (intro w hSw; (try dsimp only at hSw); (have c0 := cell_of_heap (x := 0) hSw); (have c1 := cell_of_heap (x := 1) hSw); (have c2 := cell_of_heap (x := 2) hSw); (have c3 := cell_of_heap (x := 3) hSw); (have c4 := cell_of_heap (x := 4) hSw); (have c5 := cell_of_heap (x := 5) hSw); (have c6 := cell_of_heap (x := 6) hSw); (have c7 := cell_of_heap (x := 7) hSw); (simp at c0 c1 c2 c3 c4 c5 c6 c7); go_simp); all_goals (with_reducible rfl)
      try simp only [Act.put, List.setIfInBounds_toArray, List.set_cons_zero, List.set_cons_succ]
      refine wpAnyH_take (i := 5) (oi := { dst := some 16, op := _, type := _, pos := _, after := _, guard := _ }) (v := ?_) rfl (by kernel_rfl) (by kernel_rfl) (by kernel_rfl) (fun _ _ _ h => h) (Or.inl ⟨by kernel_rfl, ?_⟩) (by assumption) ?_
      rotate_left
      · (intro w hSw; (try dsimp only at hSw); go_simp); all_goals (with_reducible rfl)
      try simp only [Act.put, List.setIfInBounds_toArray, List.set_cons_zero, List.set_cons_succ]
      refine wpAnyH_take (i := 6) (oi := { dst := some 17, op := _, type := _, pos := _, after := _, guard := _ }) (v := ?_) rfl (by kernel_rfl) (by kernel_rfl) (by kernel_rfl) (fun _ _ _ h => h) (Or.inl ⟨by kernel_rfl, ?_⟩) (by assumption) ?_
      rotate_left
      · (intro w hSw; (try dsimp only at hSw); (have c0 := cell_of_heap (x := 0) hSw); (have c1 := cell_of_heap (x := 1) hSw); (have c2 := cell_of_heap (x := 2) hSw); (have c3 := cell_of_heap (x := 3) hSw); (have c4 := cell_of_heap (x := 4) hSw); (have c5 := cell_of_heap (x := 5) hSw); (have c6 := cell_of_heap (x := 6) hSw); (have c7 := cell_of_heap (x := 7) hSw); (simp at c0 c1 c2 c3 c4 c5 c6 c7); go_simp); all_goals (with_reducible rfl)
      try simp only [Act.put, List.setIfInBounds_toArray, List.set_cons_zero, List.set_cons_succ]
      refine wpAnyH_take (i := 9) (oi := { dst := some 20, op := _, type := _, pos := _, after := _, guard := _ }) (v := ?_) rfl (by kernel_rfl) (by kernel_rfl) (by kernel_rfl) (fun _ _ _ h => h) (Or.inl ⟨by kernel_rfl, ?_⟩) (by assumption) ?_
      rotate_left
      · (intro w hSw; (try dsimp only at hSw); go_simp); all_goals (with_reducible rfl)
      try simp only [Act.put, List.setIfInBounds_toArray, List.set_cons_zero, List.set_cons_succ]
      refine wpAnyH_take (i := 10) (oi := { dst := some 21, op := _, type := _, pos := _, after := _, guard := _ }) (v := ?_) rfl (by kernel_rfl) (by kernel_rfl) (by kernel_rfl) (fun _ _ _ h => h) (Or.inl ⟨by kernel_rfl, ?_⟩) (by assumption) ?_
      rotate_left
      · (intro w hSw; (try dsimp only at hSw); (have c0 := cell_of_heap (x := 0) hSw); (have c1 := cell_of_heap (x := 1) hSw); (have c2 := cell_of_heap (x := 2) hSw); (have c3 := cell_of_heap (x := 3) hSw); (have c4 := cell_of_heap (x := 4) hSw); (have c5 := cell_of_heap (x := 5) hSw); (have c6 := cell_of_heap (x := 6) hSw); (have c7 := cell_of_heap (x := 7) hSw); (simp at c0 c1 c2 c3 c4 c5 c6 c7); go_simp); all_goals (with_reducible rfl)
      try simp only [Act.put, List.setIfInBounds_toArray, List.set_cons_zero, List.set_cons_succ]
      refine wpAnyH_take (i := 13) (oi := { dst := some 24, op := _, type := _, pos := _, after := _, guard := _ }) (v := ?_) rfl (by kernel_rfl) (by kernel_rfl) (by kernel_rfl) (fun _ _ _ h => h) (Or.inl ⟨by kernel_rfl, ?_⟩) (by assumption) ?_
      rotate_left
      · (intro w hSw; (try dsimp only at hSw); go_simp); all_goals (with_reducible rfl)
      try simp only [Act.put, List.setIfInBounds_toArray, List.set_cons_zero, List.set_cons_succ]
      refine wpAnyH_take (i := 14) (oi := { dst := some 25, op := _, type := _, pos := _, after := _, guard := _ }) (v := ?_) rfl (by kernel_rfl) (by kernel_rfl) (by kernel_rfl) (fun _ _ _ h => h) (Or.inl ⟨by kernel_rfl, ?_⟩) (by assumption) ?_
      rotate_left
      · (intro w hSw; (try dsimp only at hSw); (have c0 := cell_of_heap (x := 0) hSw); (have c1 := cell_of_heap (x := 1) hSw); (have c2 := cell_of_heap (x := 2) hSw); (have c3 := cell_of_heap (x := 3) hSw); (have c4 := cell_of_heap (x := 4) hSw); (have c5 := cell_of_heap (x := 5) hSw); (have c6 := cell_of_heap (x := 6) hSw); (have c7 := cell_of_heap (x := 7) hSw); (simp at c0 c1 c2 c3 c4 c5 c6 c7); go_simp); all_goals (with_reducible rfl)
      try simp only [Act.put, List.setIfInBounds_toArray, List.set_cons_zero, List.set_cons_succ]
      refine wpAnyH_take (i := 17) (oi := { dst := some 28, op := _, type := _, pos := _, after := _, guard := _ }) (v := ?_) rfl (by kernel_rfl) (by kernel_rfl) (by kernel_rfl) (fun _ _ _ h => h) (Or.inl ⟨by kernel_rfl, ?_⟩) (by assumption) ?_
      rotate_left
      · (intro w hSw; (try dsimp only at hSw); go_simp); all_goals (with_reducible rfl)
      try simp only [Act.put, List.setIfInBounds_toArray, List.set_cons_zero, List.set_cons_succ]
      refine wpAnyH_take (i := 18) (oi := { dst := some 29, op := _, type := _, pos := _, after := _, guard := _ }) (v := ?_) rfl (by kernel_rfl) (by kernel_rfl) (by kernel_rfl) (fun _ _ _ h => h) (Or.inl ⟨by kernel_rfl, ?_⟩) (by assumption) ?_
      rotate_left
      · (intro w hSw; (try dsimp only at hSw); (have c0 := cell_of_heap (x := 0) hSw); (have c1 := cell_of_heap (x := 1) hSw); (have c2 := cell_of_heap (x := 2) hSw); (have c3 := cell_of_heap (x := 3) hSw); (have c4 := cell_of_heap (x := 4) hSw); (have c5 := cell_of_heap (x := 5) hSw); (have c6 := cell_of_heap (x := 6) hSw); (have c7 := cell_of_heap (x := 7) hSw); (simp at c0 c1 c2 c3 c4 c5 c6 c7); go_simp); all_goals (with_reducible rfl)
      try simp only [Act.put, List.setIfInBounds_toArray, List.set_cons_zero, List.set_cons_succ]
      refine wpAnyH_take (i := 21) (oi := { dst := some 32, op := _, type := _, pos := _, after := _, guard := _ }) (v := ?_) rfl (by kernel_rfl) (by kernel_rfl) (by kernel_rfl) (fun _ _ _ h => h) (Or.inl ⟨by kernel_rfl, ?_⟩) (by assumption) ?_
      rotate_left
      · (intro w hSw; (try dsimp only at hSw); go_simp); all_goals (with_reducible rfl)
      try simp only [Act.put, List.setIfInBounds_toArray, List.set_cons_zero, List.set_cons_succ]
      refine wpAnyH_take (i := 22) (oi := { dst := some 33, op := _, type := _, pos := _, after := _, guard := _ }) (v := ?_) rfl (by kernel_rfl) (by kernel_rfl) (by kernel_rfl) (fun _ _ _ h => h) (Or.inl ⟨by kernel_rfl, ?_⟩) (by assumption) ?_
      rotate_left
      · (intro w hSw; (try dsimp only at hSw); (have c0 := cell_of_heap (x := 0) hSw); (have c1 := cell_of_heap (x := 1) hSw); (have c2 := cell_of_heap (x := 2) hSw); (have c3 := cell_of_heap (x := 3) hSw); (have c4 := cell_of_heap (x := 4) hSw); (have c5 := cell_of_heap (x := 5) hSw); (have c6 := cell_of_heap (x := 6) hSw); (have c7 := cell_of_heap (x := 7) hSw); (simp at c0 c1 c2 c3 c4 c5 c6 c7); go_simp); all_goals (with_reducible rfl)
      try simp only [Act.put, List.setIfInBounds_toArray, List.set_cons_zero, List.set_cons_succ]
      refine wpAnyH_take (i := 25) (oi := { dst := some 36, op := _, type := _, pos := _, after := _, guard := _ }) (v := ?_) rfl (by kernel_rfl) (by kernel_rfl) (by kernel_rfl) (fun _ _ _ h => h) (Or.inl ⟨by kernel_rfl, ?_⟩) (by assumption) ?_
      rotate_left
      · (intro w hSw; (try dsimp only at hSw); go_simp); all_goals (with_reducible rfl)
      try simp only [Act.put, List.setIfInBounds_toArray, List.set_cons_zero, List.set_cons_succ]
      refine wpAnyH_take (i := 26) (oi := { dst := some 37, op := _, type := _, pos := _, after := _, guard := _ }) (v := ?_) rfl (by kernel_rfl) (by kernel_rfl) (by kernel_rfl) (fun _ _ _ h => h) (Or.inl ⟨by kernel_rfl, ?_⟩) (by assumption) ?_
      rotate_left
      · (intro w hSw; (try dsimp only at hSw); (have c0 := cell_of_heap (x := 0) hSw); (have c1 := cell_of_heap (x := 1) hSw); (have c2 := cell_of_heap (x := 2) hSw); (have c3 := cell_of_heap (x := 3) hSw); (have c4 := cell_of_heap (x := 4) hSw); (have c5 := cell_of_heap (x := 5) hSw); (have c6 := cell_of_heap (x := 6) hSw); (have c7 := cell_of_heap (x := 7) hSw); (simp at c0 c1 c2 c3 c4 c5 c6 c7); go_simp); all_goals (with_reducible rfl)
      try simp only [Act.put, List.setIfInBounds_toArray, List.set_cons_zero, List.set_cons_succ]
      refine wpAnyH_take (i := 29) (oi := { dst := some 40, op := _, type := _, pos := _, after := _, guard := _ }) (v := ?_) rfl (by kernel_rfl) (by kernel_rfl) (by kernel_rfl) (fun _ _ _ h => h) (Or.inl ⟨by kernel_rfl, ?_⟩) (by assumption) ?_
      rotate_left
      · (intro w hSw; (try dsimp only at hSw); go_simp); all_goals (with_reducible rfl)
      try simp only [Act.put, List.setIfInBounds_toArray, List.set_cons_zero, List.set_cons_succ]
      refine wpAnyH_take (i := 30) (oi := { dst := some 41, op := _, type := _, pos := _, after := _, guard := _ }) (v := ?_) rfl (by kernel_rfl) (by kernel_rfl) (by kernel_rfl) (fun _ _ _ h => h) (Or.inl ⟨by kernel_rfl, ?_⟩) (by assumption) ?_
      rotate_left
      · (intro w hSw; (try dsimp only at hSw); (have c0 := cell_of_heap (x := 0) hSw); (have c1 := cell_of_heap (x := 1) hSw); (have c2 := cell_of_heap (x := 2) hSw); (have c3 := cell_of_heap (x := 3) hSw); (have c4 := cell_of_heap (x := 4) hSw); (have c5 := cell_of_heap (x := 5) hSw); (have c6 := cell_of_heap (x := 6) hSw); (have c7 := cell_of_heap (x := 7) hSw); (simp at c0 c1 c2 c3 c4 c5 c6 c7); go_simp); all_goals (with_reducible rfl)
      try simp only [Act.put, List.setIfInBounds_toArray, List.set_cons_zero, List.set_cons_succ]
      refine wpAnyH_take (i := 31) (oi := { dst := some 42, op := _, type := _, pos := _, after := _, guard := _ }) (v := ?_) rfl (by kernel_rfl) (by kernel_rfl) (by kernel_rfl) (fun _ _ _ h => h) (Or.inl ⟨by kernel_rfl, ?_⟩) (by assumption) ?_
      rotate_left
      · (intro w hSw; (try dsimp only at hSw); go_simp); all_goals (with_reducible rfl)
      try simp only [Act.put, List.setIfInBounds_toArray, List.set_cons_zero, List.set_cons_succ]
      refine wpAnyH_ready (rs := [0]) (by kernel_rfl) (by simp) ?_
      refine (AllReadyH.cons (o := { dst := some 11, op := _, type := _, pos := _, after := _, guard := _ }) rfl (fun K hK => ?_) AllReadyH.nil)
      rw [if_pos (by kernel_rfl)]
      refine wp_call_go Tryz.func77 (by kernel_rfl) (by kernel_rfl) (by rfl) (F0.out _) (by rfl) ?_
      rintro e v1 ⟨rfl, qv1, rfl⟩
      refine ⟨_, rfl, ?_⟩
      have Hv1 : Hid ((v0.drewN qv1).heap[w.heap.size]? = some (.cells #[.int .i64 q, .bool u, .bool m, .string ⟨e.toArray⟩, .string ⟨t.toArray⟩, .int .i64 z, .int .i64 y, .slice a l.length c] 47 (0, 0))) := Hv0.out
      have Bv1 := Lib.hid (belowDrewN Bv0.out qv1)
      clear Hv0 Bv0
      refine hK.out _ _ Hv1.out (fun _ => ?_)
      generalize v0.drewN qv1 = v1 at Hv1 Bv1 ⊢
      clear hK K
      try simp only [Act.put, List.setIfInBounds_toArray, List.set_cons_zero, List.set_cons_succ]
      refine wpAnyH_ready (rs := [3]) (by kernel_rfl) (by simp) ?_
      refine (AllReadyH.cons (o := { dst := some 14, op := _, type := _, pos := _, after := _, guard := _ }) rfl (fun K hK => ?_) AllReadyH.nil)
      rw [if_pos (by kernel_rfl)]
      refine wp_call_go Tryz.func78 (by kernel_rfl) (by kernel_rfl) (by rfl) (F1.out _) (by rfl) ?_
      rintro e v2 ⟨rfl, qv2, rfl⟩
      refine ⟨_, rfl, ?_⟩
      have Hv2 : Hid ((v1.drewN qv2).heap[w.heap.size]? = some (.cells #[.int .i64 q, .bool u, .bool m, .string ⟨e.toArray⟩, .string ⟨t.toArray⟩, .int .i64 z, .int .i64 y, .slice a l.length c] 47 (0, 0))) := Hv1.out
      have Bv2 := Lib.hid (belowDrewN Bv1.out qv2)
      clear Hv1 Bv1
      refine hK.out _ _ Hv2.out (fun _ => ?_)
      generalize v1.drewN qv2 = v2 at Hv2 Bv2 ⊢
      clear hK K
      try simp only [Act.put, List.setIfInBounds_toArray, List.set_cons_zero, List.set_cons_succ]
      refine wpAnyH_take (i := 4) (oi := { dst := some 15, op := _, type := _, pos := _, after := _, guard := _ }) (v := ?_) rfl (by kernel_rfl) (by kernel_rfl) (by kernel_rfl) (fun _ _ _ h => h) (Or.inl ⟨by kernel_rfl, ?_⟩) (by assumption) ?_
      rotate_left
      · (intro w hSw; (try dsimp only at hSw); go_simp); all_goals (with_reducible rfl)
      try simp only [Act.put, List.setIfInBounds_toArray, List.set_cons_zero, List.set_cons_succ]
      refine wpAnyH_ready (rs := [7]) (by kernel_rfl) (by simp) ?_
      refine (AllReadyH.cons (o := { dst := some 18, op := _, type := _, pos := _, after := _, guard := _ }) rfl (fun K hK => ?_) AllReadyH.nil)
      rw [if_pos (by kernel_rfl)]
      refine wp_call_go Tryz.func79 (by kernel_rfl) (by kernel_rfl) (by rfl) (F2.out _) (by rfl) ?_
      rintro e v3 ⟨rfl, qv3, rfl⟩
      refine ⟨_, rfl, ?_⟩
      have Hv3 : Hid ((v2.drewN qv3).heap[w.heap.size]? = some (.cells #[.int .i64 q, .bool u, .bool m, .string ⟨e.toArray⟩, .string ⟨t.toArray⟩, .int .i64 z, .int .i64 y, .slice a l.length c] 47 (0, 0))) := Hv2.out
      have Bv3 := Lib.hid (belowDrewN Bv2.out qv3)
      clear Hv2 Bv2
      refine hK.out _ _ Hv3.out (fun _ => ?_)
      generalize v2.drewN qv3 = v3 at Hv3 Bv3 ⊢
      clear hK K
      try simp only [Act.put, List.setIfInBounds_toArray, List.set_cons_zero, List.set_cons_succ]
      refine wpAnyH_take (i := 8) (oi := { dst := some 19, op := _, type := _, pos := _, after := _, guard := _ }) (v := ?_) rfl (by kernel_rfl) (by kernel_rfl) (by kernel_rfl) (fun _ _ _ h => h) (Or.inl ⟨by kernel_rfl, ?_⟩) (by assumption) ?_
      rotate_left
      · (intro w hSw; (try dsimp only at hSw); go_simp); all_goals (with_reducible rfl)
      try simp only [Act.put, List.setIfInBounds_toArray, List.set_cons_zero, List.set_cons_succ]
      refine wpAnyH_ready (rs := [11]) (by kernel_rfl) (by simp) ?_
      refine (AllReadyH.cons (o := { dst := some 22, op := _, type := _, pos := _, after := _, guard := _ }) rfl (fun K hK => ?_) AllReadyH.nil)
      rw [if_pos (by kernel_rfl)]
      refine wp_call_go Tryz.func79 (by kernel_rfl) (by kernel_rfl) (by rfl) (F3.out _) (by rfl) ?_
      rintro e v4 ⟨rfl, qv4, rfl⟩
      refine ⟨_, rfl, ?_⟩
      have Hv4 : Hid ((v3.drewN qv4).heap[w.heap.size]? = some (.cells #[.int .i64 q, .bool u, .bool m, .string ⟨e.toArray⟩, .string ⟨t.toArray⟩, .int .i64 z, .int .i64 y, .slice a l.length c] 47 (0, 0))) := Hv3.out
      have Bv4 := Lib.hid (belowDrewN Bv3.out qv4)
      clear Hv3 Bv3
      refine hK.out _ _ Hv4.out (fun _ => ?_)
      generalize v3.drewN qv4 = v4 at Hv4 Bv4 ⊢
      clear hK K
      try simp only [Act.put, List.setIfInBounds_toArray, List.set_cons_zero, List.set_cons_succ]
      refine wpAnyH_take (i := 12) (oi := { dst := some 23, op := _, type := _, pos := _, after := _, guard := _ }) (v := ?_) rfl (by kernel_rfl) (by kernel_rfl) (by kernel_rfl) (fun _ _ _ h => h) (Or.inl ⟨by kernel_rfl, ?_⟩) (by assumption) ?_
      rotate_left
      · (intro w hSw; (try dsimp only at hSw); go_simp); all_goals (with_reducible rfl)
      try simp only [Act.put, List.setIfInBounds_toArray, List.set_cons_zero, List.set_cons_succ]
      refine wpAnyH_ready (rs := [15]) (by kernel_rfl) (by simp) ?_
      refine (AllReadyH.cons (o := { dst := some 26, op := _, type := _, pos := _, after := _, guard := _ }) rfl (fun K hK => ?_) AllReadyH.nil)
      rw [if_pos (by kernel_rfl)]
      refine wp_call_go Tryz.func77 (by kernel_rfl) (by kernel_rfl) (by rfl) (F4.out _) (by rfl) ?_
      rintro e v5 ⟨rfl, qv5, rfl⟩
      refine ⟨_, rfl, ?_⟩
      have Hv5 : Hid ((v4.drewN qv5).heap[w.heap.size]? = some (.cells #[.int .i64 q, .bool u, .bool m, .string ⟨e.toArray⟩, .string ⟨t.toArray⟩, .int .i64 z, .int .i64 y, .slice a l.length c] 47 (0, 0))) := Hv4.out
      have Bv5 := Lib.hid (belowDrewN Bv4.out qv5)
      clear Hv4 Bv4
      refine hK.out _ _ Hv5.out (fun _ => ?_)
      generalize v4.drewN qv5 = v5 at Hv5 Bv5 ⊢
      clear hK K
      try simp only [Act.put, List.setIfInBounds_toArray, List.set_cons_zero, List.set_cons_succ]
      refine wpAnyH_take (i := 16) (oi := { dst := some 27, op := _, type := _, pos := _, after := _, guard := _ }) (v := ?_) rfl (by kernel_rfl) (by kernel_rfl) (by kernel_rfl) (fun _ _ _ h => h) (Or.inl ⟨by kernel_rfl, ?_⟩) (by assumption) ?_
      rotate_left
      · (intro w hSw; (try dsimp only at hSw); go_simp); all_goals (with_reducible rfl)
      try simp only [Act.put, List.setIfInBounds_toArray, List.set_cons_zero, List.set_cons_succ]
      refine wpAnyH_ready (rs := [19]) (by kernel_rfl) (by simp) ?_
      refine (AllReadyH.cons (o := { dst := some 30, op := _, type := _, pos := _, after := _, guard := _ }) rfl (fun K hK => ?_) AllReadyH.nil)
      rw [if_pos (by kernel_rfl)]
      refine wp_call_go Tryz.func77 (by kernel_rfl) (by kernel_rfl) (by rfl) (F5.out _) (by rfl) ?_
      rintro e v6 ⟨rfl, qv6, rfl⟩
      refine ⟨_, rfl, ?_⟩
      have Hv6 : Hid ((v5.drewN qv6).heap[w.heap.size]? = some (.cells #[.int .i64 q, .bool u, .bool m, .string ⟨e.toArray⟩, .string ⟨t.toArray⟩, .int .i64 z, .int .i64 y, .slice a l.length c] 47 (0, 0))) := Hv5.out
      have Bv6 := Lib.hid (belowDrewN Bv5.out qv6)
      clear Hv5 Bv5
      refine hK.out _ _ Hv6.out (fun _ => ?_)
      generalize v5.drewN qv6 = v6 at Hv6 Bv6 ⊢
      clear hK K
      try simp only [Act.put, List.setIfInBounds_toArray, List.set_cons_zero, List.set_cons_succ]
      refine wpAnyH_take (i := 20) (oi := { dst := some 31, op := _, type := _, pos := _, after := _, guard := _ }) (v := ?_) rfl (by kernel_rfl) (by kernel_rfl) (by kernel_rfl) (fun _ _ _ h => h) (Or.inl ⟨by kernel_rfl, ?_⟩) (by assumption) ?_
      rotate_left
      · (intro w hSw; (try dsimp only at hSw); go_simp); all_goals (with_reducible rfl)
      try simp only [Act.put, List.setIfInBounds_toArray, List.set_cons_zero, List.set_cons_succ]
      refine wpAnyH_ready (rs := [23]) (by kernel_rfl) (by simp) ?_
      refine (AllReadyH.cons (o := { dst := some 34, op := _, type := _, pos := _, after := _, guard := _ }) rfl (fun K hK => ?_) AllReadyH.nil)
      rw [if_pos (by kernel_rfl)]
      refine wp_call_go Tryz.func78 (by kernel_rfl) (by kernel_rfl) (by rfl) (F6.out _) (by rfl) ?_
      rintro e v7 ⟨rfl, qv7, rfl⟩
      refine ⟨_, rfl, ?_⟩
      have Hv7 : Hid ((v6.drewN qv7).heap[w.heap.size]? = some (.cells #[.int .i64 q, .bool u, .bool m, .string ⟨e.toArray⟩, .string ⟨t.toArray⟩, .int .i64 z, .int .i64 y, .slice a l.length c] 47 (0, 0))) := Hv6.out
      have Bv7 := Lib.hid (belowDrewN Bv6.out qv7)
      clear Hv6 Bv6
      refine hK.out _ _ Hv7.out (fun _ => ?_)
      generalize v6.drewN qv7 = v7 at Hv7 Bv7 ⊢
      clear hK K
      try simp only [Act.put, List.setIfInBounds_toArray, List.set_cons_zero, List.set_cons_succ]
      refine wpAnyH_take (i := 24) (oi := { dst := some 35, op := _, type := _, pos := _, after := _, guard := _ }) (v := ?_) rfl (by kernel_rfl) (by kernel_rfl) (by kernel_rfl) (fun _ _ _ h => h) (Or.inl ⟨by kernel_rfl, ?_⟩) (by assumption) ?_
      rotate_left
      · (intro w hSw; (try dsimp only at hSw); go_simp); all_goals (with_reducible rfl)
      try simp only [Act.put, List.setIfInBounds_toArray, List.set_cons_zero, List.set_cons_succ]
      refine wpAnyH_ready (rs := [27]) (by kernel_rfl) (by simp) ?_
      refine (AllReadyH.cons (o := { dst := some 38, op := _, type := _, pos := _, after := _, guard := _ }) rfl (fun K hK => ?_) AllReadyH.nil)
      rw [if_pos (by kernel_rfl)]
      refine wp_call_go Tryz.func78 (by kernel_rfl) (by kernel_rfl) (by rfl) (F7.out _) (by rfl) ?_
      rintro e v8 ⟨rfl, qv8, rfl⟩
      refine ⟨_, rfl, ?_⟩
      have Hv8 : Hid ((v7.drewN qv8).heap[w.heap.size]? = some (.cells #[.int .i64 q, .bool u, .bool m, .string ⟨e.toArray⟩, .string ⟨t.toArray⟩, .int .i64 z, .int .i64 y, .slice a l.length c] 47 (0, 0))) := Hv7.out
      have Bv8 := Lib.hid (belowDrewN Bv7.out qv8)
      clear Hv7 Bv7
      refine hK.out _ _ Hv8.out (fun _ => ?_)
      generalize v7.drewN qv8 = v8 at Hv8 Bv8 ⊢
      clear hK K
      try simp only [Act.put, List.setIfInBounds_toArray, List.set_cons_zero, List.set_cons_succ]
      refine wpAnyH_take (i := 28) (oi := { dst := some 39, op := _, type := _, pos := _, after := _, guard := _ }) (v := ?_) rfl (by kernel_rfl) (by kernel_rfl) (by kernel_rfl) (fun _ _ _ h => h) (Or.inl ⟨by kernel_rfl, ?_⟩) (by assumption) ?_
      rotate_left
      · (intro w hSw; (try dsimp only at hSw); go_simp); all_goals (with_reducible rfl)
      try simp only [Act.put, List.setIfInBounds_toArray, List.set_cons_zero, List.set_cons_succ]
      refine wpAnyH_ready (rs := [32]) (by kernel_rfl) (by simp) ?_
      refine (AllReadyH.cons (o := { dst := some 43, op := _, type := _, pos := _, after := _, guard := _ }) rfl (fun K hK => ?_) AllReadyH.nil)
      rw [if_pos (by kernel_rfl)]
      refine wp_call_go Tryz.func78 (by kernel_rfl) (by kernel_rfl) (by rfl) (F8.out _) (by rfl) ?_
      rintro e v9 ⟨rfl, qv9, rfl⟩
      refine ⟨_, rfl, ?_⟩
      have Hv9 : Hid ((v8.drewN qv9).heap[w.heap.size]? = some (.cells #[.int .i64 q, .bool u, .bool m, .string ⟨e.toArray⟩, .string ⟨t.toArray⟩, .int .i64 z, .int .i64 y, .slice a l.length c] 47 (0, 0))) := Hv8.out
      have Bv9 := Lib.hid (belowDrewN Bv8.out qv9)
      clear Hv8 Bv8
      refine hK.out _ _ Hv9.out (fun _ => ?_)
      generalize v8.drewN qv9 = v9 at Hv9 Bv9 ⊢
      clear hK K
      try simp only [Act.put, List.setIfInBounds_toArray, List.set_cons_zero, List.set_cons_succ]
      refine wpAnyH_take (i := 33) (oi := { dst := some 44, op := _, type := _, pos := _, after := _, guard := _ }) (v := ?_) rfl (by kernel_rfl) (by kernel_rfl) (by kernel_rfl) (fun _ _ _ h => h) (Or.inl ⟨by kernel_rfl, ?_⟩) (by assumption) ?_
      rotate_left
      · (intro w hSw; (try dsimp only at hSw); go_simp); all_goals (with_reducible rfl)
      try simp only [Act.put, List.setIfInBounds_toArray, List.set_cons_zero, List.set_cons_succ]
      refine wpAnyH_take (i := 34) (oi := { dst := some 5, op := _, type := _, pos := _, after := _, guard := _ }) (v := ?_) rfl (by kernel_rfl) (by kernel_rfl) (by kernel_rfl) (fun _ _ _ h => h) (Or.inl ⟨by kernel_rfl, ?_⟩) (by assumption) ?_
      rotate_left
      · (intro w hSw; (try dsimp only at hSw); go_simp); all_goals (with_reducible rfl)
      try simp only [Act.put, List.setIfInBounds_toArray, List.set_cons_zero, List.set_cons_succ]
      refine wpAnyH_done (by kernel_rfl) ?_ _
      go_wp2_with fail
      go_meet
      case rel => exact ⟨by rw [HE.out]; simp only [← str_app], Hv9, Bv9⟩
    case rest =>
      obtain ⟨rfl, Hx, Bx⟩ := hcut
      obtain ⟨wx, rfl⟩ : ∃ wx : World, wx = wc := ⟨_, rfl⟩
      clear F0 F1 F2 F3 F4 F5 F6 F7 F8 n1 n2 n3 n4 n5 n6 n7 n8 HE
      have c7 : wx.cell? ⟨w.heap.size, 7, none⟩ = some (.slice a l.length c) := cell_of_heap Hx.out
      go_wp2
      go_loopg [5, 6] l.length (fun gg s5 s6 wr => ∃ (i : Nat), i ≤ l.length ∧ l.length - i ≤ gg ∧ s5 = .string ⟨(H0 ++ (l.take i).flatMap numL).toArray⟩ ∧ s6 = .int .i64 i ∧ ((l.take i).flatMap numL).length ≤ 44 * i ∧ Hid (wr.heap[w.heap.size]? = some (.cells #[.int .i64 q, .bool u, .bool m, .string ⟨e.toArray⟩, .string ⟨t.toArray⟩, .int .i64 z, .int .i64 y, .slice a l.length c] 47 (0, 0))) ∧ Hid (Below w.heap.size w wr))
      case atStart => exact ⟨0, by omega, by omega, by simp, rfl, by simp, Hx, Bx⟩
      case round =>
        obtain ⟨i, hin, hgg, rfl, rfl, hlen, HK, HB⟩ := hrel
        clear c7
        have c7 : wr.cell? ⟨w.heap.size, 7, none⟩ = some (.slice a l.length c) := cell_of_heap HK.out
        by_cases hlt : i < l.length
        · obtain ⟨x, hx⟩ : ∃ x, l[i]? = some x := ⟨_, List.getElem?_eq_getElem hlt⟩
          obtain ⟨b, off, rfl, hc⟩ := HC.out i x hx
          have k0 := cell_later' HB.out hc
          have hltz : (i : Int) < (l.length : Int) := by omega
          have hxb := HBL.out x (List.mem_of_getElem? hx)
          have FX := Lib.hid (fun W => FN.out x (by omega) W)
          have gX := numL_len (n := x) (by omega) (by omega)
          have hsn : (l.take (i + 1)).flatMap numL = (l.take i).flatMap numL ++ numL x := by
            rw [← List.take_append_getElem hlt, List.flatMap_append, (List.getElem?_eq_some_iff.1 hx).2]; simp
          have HSN := Lib.hid hsn
          clear hx hc hxb hsn
          obtain ⟨A, hA⟩ : ∃ A, (l.take i).flatMap numL = A := ⟨_, rfl⟩
          rw [hA] at HSN hlen ⊢
          generalize numL x = B at HSN FX gX
          have o1 : ¬ 9223372036854775807 < (H0 ++ A).length + B.length := by simp; omega
          have o2 : ¬ 9223372036854775807 < H0.length + A.length + B.length := by omega
          clear hA
          go_wp2_with fail
          refine (FX.out _).mono ?_
          rintro e w2 ⟨rfl, q2, rfl⟩
          go_wp2
          go_roundg (l.length - (i + 1))
          case measure => omega
          case rel =>
            refine ⟨i + 1, by omega, Nat.le_refl _, ?_, by go_num, by rw [HSN.out]; simp; omega, HK.out, belowDrewN HB.out _⟩
            rw [HSN.out]
            simp only [← List.append_assoc, ← str_app]
        · obtain rfl : i = l.length := by omega
          rw [List.take_length] at *
          go_wp2
          go_ret2
          refine ⟨ret_tup (b := ⟨X.toArray⟩) ?_, HB.out⟩
          rw [HX.out]

end Go.Proofs.YtajmkkjlhmeolaaGreatDoor
