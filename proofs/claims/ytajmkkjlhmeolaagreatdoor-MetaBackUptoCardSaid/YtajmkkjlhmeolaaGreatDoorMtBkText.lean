/-
  meta.BucketText: the walk. (Printed by wip/gen/mtwr.py.)
-/
import Derived.Test.YtajmkkjlhmeolaaGreatDoorMtVerText
import Derived.Test.YtajmkkjlhmeolaaGreatDoorMtReadBk
import Derived.Test.YtajmkkjlhmeolaaGreatDoorMfBk
namespace Go.Proofs.YtajmkkjlhmeolaaGreatDoor
open Go.RowKit

set_option maxHeartbeats 2000000 in
set_option maxRecDepth 100000 in
theorem toldBk_any (base b : Nat) (l : List UInt8) (v : Value) (w : World) (h : WrAt w base b l v) (hG : ∀ W, Below base w W → GlobK W) (h0 : l ≠ []) (hl : l.length ≤ 140737488351232) :
    Calls Tryz.prog 72 #[.pointer (some ⟨b, 0, none⟩), .func (.func 26) #[] #[]] w (ToldOut l (readBkL l).isSome base w) := by
  have HST := Lib.hid (string_any base b l v w h h0)
  have HRD : Hid (∀ W, GlobK W → Calls Tryz.prog 26 #[.string ⟨l.toArray⟩] W fun e w' => ∃ (b1 b2 b3 : List UInt8) (b4 b5 : Int) (a : Option Addr) (n c : Nat), e = .returned (.tuple #[.agg #[.string ⟨b1.toArray⟩, .string ⟨b2.toArray⟩, .string ⟨b3.toArray⟩, .int .i64 b4, .int .i64 b5, .slice a n c], .int .i64 (if (readBkL l).isSome then 0 else 59)]) ∧ Below W.heap.size W w') := fun W hW => by
    refine (readBk_any l W hW hl).mono ?_
    rintro e w' ⟨v, he, h1, h2⟩
    obtain ⟨a, c, rfl⟩ := rl_form h1
    exact ⟨((readBkL l).getD bkZ).name, ((readBkL l).getD bkZ).owner, ((readBkL l).getD bkZ).policy, ((readBkL l).getD bkZ).when_, ((readBkL l).getD bkZ).mode, a, _, c, he, h2⟩
  obtain ⟨ok, hok⟩ : ∃ x, (readBkL l).isSome = x := ⟨_, rfl⟩
  rw [hok] at HRD ⊢
  have HG := Lib.hid hG
  have hle := h.le
  clear h hG hok
  go_enter Tryz.func72, Tryz.ntmps72
  go_wp2_with fail
  refine HST.out.mono ?_
  rintro e w1 ⟨rfl, hb1⟩
  have B1 := Lib.hid hb1
  have hs1 := hb1.size
  clear hb1
  go_wp2_with fail
  refine (HRD.out _ (HG.out _ B1.out)).mono ?_
  rintro e w2 ⟨b1, b2, b3, b4, b5, a, n, c, rfl, hb2⟩
  have B2 := Lib.hid (B1.out.trans (hb2.mono (by omega)))
  have hs2 := hb2.size
  clear hb2
  have BF : Hid (Below base w ((w2.alloc (.cells bkZeroC 41)).setRow w2.heap.size #[.string ⟨b1.toArray⟩, .string ⟨b2.toArray⟩, .string ⟨b3.toArray⟩, .int .i64 b4, .int .i64 b5, .slice a n c])) := below_one_row _ _ _ _ _ (B2.out.alloc (by omega) _) (by omega)
  cases ok
  all_goals
    go_wp2_with (refine wpList_store_row (by rfl) 41 _ _ (by rfl) w2.heap.size #[.string ⟨b1.toArray⟩, .string ⟨b2.toArray⟩, .string ⟨b3.toArray⟩, .int .i64 b4, .int .i64 b5, .slice a n c] (by rfl) (by rfl) 41 bkZeroC (by exact heap_alloc_new _ _) (by kernel_rfl) (by kernel_rfl) (by kernel_rfl) ?_)
    go_ret2
    exact ⟨rfl, BF.out⟩

theorem bkL_eq (k1 k2 k3 : List UInt8) (k4 k5 : Int) (rl : List RlV) : bkL ⟨k1, k2, k3, k4, k5, rl⟩ = (fieldL [66] ++ (fieldL k1 ++ fieldL k2)) ++ (numL k4 ++ numL k5) ++ fieldL k3 ++ numL (rl.length : Int) ++ rl.flatMap rlL := by
  simp [bkL]
theorem rlL_eq (r1 r2 : List UInt8) (r3 : Bool) (r4 r5 r6 : Int) : rlL ⟨r1, r2, r3, r4, r5, r6⟩ = (fieldL r1 ++ fieldL r2) ++ numL (if r3 then 1 else 0) ++ (numL r4 ++ (numL r5 ++ numL r6)) := by
  have e : ∀ b : Bool, flagN b = if b then 1 else 0 := fun b => by cases b <;> rfl
  simp [rlL, e]
theorem rl_flat {l : List RlV} {i : Nat} {x : RlV} (hx : l[i]? = some x) : l.flatMap rlL = (l.take i).flatMap rlL ++ (rlL x ++ (l.drop (i + 1)).flatMap rlL) ∧ (l.take (i + 1)).flatMap rlL = (l.take i).flatMap rlL ++ rlL x := by
  constructor
  · conv => lhs; rw [← List.take_append_drop i l, drop_at hx, List.flatMap_append, List.flatMap_cons]
  · rw [List.take_add_one, hx]; simp

set_option maxHeartbeats 4000000 in
set_option maxRecDepth 100000 in
theorem bkText_any (p : BkV) (sv : Value) (w : World) (hG : GlobK w) (hok : IntOK p.when_ ∧ IntOK p.mode ∧ ∀ x ∈ p.rules, IntOK x.days ∧ IntOK x.nonc ∧ IntOK x.abort) (hS : SlAt w 6 sv (rlRows p.rules)) (hl : (bkL p).length ≤ 140737488351232) :
    Calls Tryz.prog 38 #[.agg (p.cells sv)] w (ToldOut (bkL p) (readBkL (bkL p)).isSome w.heap.size w) := by
  obtain ⟨k1, k2, k3, k4, k5, rl⟩ := p
  obtain ⟨o4, o5, ob⟩ := hok
  simp only at o4 o5 ob hS
  obtain ⟨a, c, rfl⟩ := rl_form hS
  have HC : Hid (∀ i x, rl[i]? = some x → ∃ G o, a = some ⟨G, o, none⟩ ∧ (∀ j u, x.cells[j]? = some u → w.cell? ⟨G, o + i * 6 + j, none⟩ = some u) ∧ G < w.heap.size) := fun i x hx => by
    obtain ⟨G, o, he, hcl⟩ := rules_at hS i x hx
    exact ⟨G, o, he, hcl, World.block_lt_of_cell? w _ (hcl 0 _ rfl)⟩
  have HLN : Hid (rl.length ≤ 140737488351232) := by
    obtain ⟨_, _, _, h2, _⟩ := hS
    rwa [rlRows_len] at h2
  have ol : IntOK (rl.length : Int) := by have := HLN.out; unfold IntOK; omega
  clear hS
  have hlL : Hid (bkL ⟨k1, k2, k3, k4, k5, rl⟩ = _) := bkL_eq k1 k2 k3 k4 k5 rl
  obtain ⟨L, hL⟩ : ∃ L, Hid (bkL ⟨k1, k2, k3, k4, k5, rl⟩ = L) := ⟨_, rfl⟩
  rw [hL.out] at hlL hl ⊢
  obtain ⟨ok, hoks⟩ : ∃ o, Hid ((readBkL L).isSome = o) := ⟨_, rfl⟩
  rw [hoks.out]
  have hlen := hl
  rw [hlL.out] at hlen
  simp only [BkV.cells]
  have W0 : Hid (WrAt ((w.alloc (.cells #[.string ⟨k1.toArray⟩, .string ⟨k2.toArray⟩, .string ⟨k3.toArray⟩, .int .i64 k4, .int .i64 k5, .slice a rl.length c] 41)).alloc (.cells #[.pointer none, .slice none 0 0] 116)) (w.heap.size + 2) (w.heap.size + 1) [] (.slice none 0 0)) := by
    have := WrAt.new (w.alloc (.cells #[.string ⟨k1.toArray⟩, .string ⟨k2.toArray⟩, .string ⟨k3.toArray⟩, .int .i64 k4, .int .i64 k5, .slice a rl.length c] 41)) (w.heap.size + 2) (by simp)
    show WrAt _ _ _ _ _
    simpa using this
  have HG0 : Hid (∀ W, Below w.heap.size w W → GlobK W) := fun W hW => hG.later hW
  have G0 : Hid (GlobK ((w.alloc (.cells #[.string ⟨k1.toArray⟩, .string ⟨k2.toArray⟩, .string ⟨k3.toArray⟩, .int .i64 k4, .int .i64 k5, .slice a rl.length c] 41)).alloc (.cells #[.pointer none, .slice none 0 0] 116))) := hG.later (below_alloc (below_alloc (Below.refl _ _) (Nat.le_refl _) _) (Nat.le_refl _) _)
  have BX : Hid (((w.alloc (.cells #[.string ⟨k1.toArray⟩, .string ⟨k2.toArray⟩, .string ⟨k3.toArray⟩, .int .i64 k4, .int .i64 k5, .slice a rl.length c] 41)).alloc (.cells #[.pointer none, .slice none 0 0] 116)).heap[w.heap.size]? = some (.cells #[.string ⟨k1.toArray⟩, .string ⟨k2.toArray⟩, .string ⟨k3.toArray⟩, .int .i64 k4, .int .i64 k5, .slice a rl.length c] 41 (0, 0))) :=
    (Below.heap_alloc _ _ _ (by simp)).trans (heap_alloc_new _ _)
  have BW : Hid (Below w.heap.size w ((w.alloc (.cells #[.string ⟨k1.toArray⟩, .string ⟨k2.toArray⟩, .string ⟨k3.toArray⟩, .int .i64 k4, .int .i64 k5, .slice a rl.length c] 41)).alloc (.cells #[.pointer none, .slice none 0 0] 116))) := below_alloc (below_alloc (Below.refl _ _) (Nat.le_refl _) _) (Nat.le_refl _) _
  have h9 := hG.g.nine
  clear hG
  go_enter Tryz.func38, Tryz.ntmps38
  go_wp2_with fail
  have HSZ : Hid (((w.alloc (.cells #[.string ⟨k1.toArray⟩, .string ⟨k2.toArray⟩, .string ⟨k3.toArray⟩, .int .i64 k4, .int .i64 k5, .slice a rl.length c] 41)).alloc (.cells #[.pointer none, .slice none 0 0] 116)).heap.size = w.heap.size + 1 + 1) := by show _ = _; simp
  generalize ((w.alloc (.cells #[.string ⟨k1.toArray⟩, .string ⟨k2.toArray⟩, .string ⟨k3.toArray⟩, .int .i64 k4, .int .i64 k5, .slice a rl.length c] 41)).alloc (.cells #[.pointer none, .slice none 0 0] 116)) = w0 at *
  have hw0 := W0.out.le
  have hs0 : w.heap.size + 2 ≤ w0.heap.size := by have := HSZ.out; omega
  have p0 : w0.cell? ⟨w.heap.size, 0, none⟩ = some (.string ⟨k1.toArray⟩) := cell_of_heap BX.out
  have p1 : w0.cell? ⟨w.heap.size, 1, none⟩ = some (.string ⟨k2.toArray⟩) := cell_of_heap BX.out
  have hba : Below w0.heap.size w0 (w0.alloc (.cells #[.string ⟨[66].toArray⟩, .string ⟨k1.toArray⟩, .string ⟨k2.toArray⟩] 9)) := below_alloc (Below.refl _ _) (Nat.le_refl _) _
  refine (wtext_any (w.heap.size + 2) (w.heap.size + 1) _ (.slice none 0 0) _ (W0.out.later hba) (G0.out.g.later hba) (by omega) [[66], k1, k2] (w.heap.size + 1 + 1) (strs_lit _ [[66], k1, k2] _ HSZ.out) (by omega) (by simp [Value.ownBlock]) (by simp [HSZ.out]) ?_).mono ?_
  · simp only [List.flatMap_cons, List.flatMap_nil, List.append_nil, List.nil_append, List.map_cons, List.map_nil]
    simp only [List.flatMap_cons, List.flatMap_nil, List.append_nil, List.length_append, List.map_cons, List.map_nil] at hlen ⊢
    omega
  rintro e w1 ⟨rfl, v1, hw, hr⟩
  have R1 := Lib.hid (Wrote.ahead hba hr)
  have W1 := Lib.hid hw
  have G1 : Hid (GlobK w1) := HG0.out _ (BW.out.trans ((R1.out.below W0.out).mono (by omega)))
  clear hw hr hba p0 p1
  have hs1 := R1.out.1.size
  have BX1 : Hid _ := box_cells BX.out R1.out (by omega) (by simp [Value.ownBlock])
  have p3 : w1.cell? ⟨w.heap.size, 3, none⟩ = some (.int .i64 k4) := cell_of_heap BX1.out
  have p4 : w1.cell? ⟨w.heap.size, 4, none⟩ = some (.int .i64 k5) := cell_of_heap BX1.out
  go_wp2_with fail
  have hba : Below w1.heap.size w1 (w1.alloc (.cells #[.int .i64 k4, .int .i64 k5] 3)) := below_alloc (Below.refl _ _) (Nat.le_refl _) _
  refine (wnumber_any (w.heap.size + 2) (w.heap.size + 1) _ v1 _ (W1.out.later hba) (G1.out.g.later hba) (by omega) [k4, k5] (by intro n hn; simp only [List.mem_cons, List.not_mem_nil, or_false] at hn; rcases hn with rfl | rfl <;> assumption) (some ⟨w1.heap.size, 0, none⟩) 2 (ints_lit w1 [k4, k5] _ _ (by have := W1.out.lt; omega) (fun e => by have := (W1.out.own.lt _ e).2; omega)) ?_).mono ?_
  · simp only [List.flatMap_cons, List.flatMap_nil, List.append_nil, List.nil_append, List.map_cons, List.map_nil]
    simp only [List.flatMap_cons, List.flatMap_nil, List.append_nil, List.length_append, List.map_cons, List.map_nil] at hlen ⊢
    omega
  rintro e w2 ⟨rfl, v2, hw, hr⟩
  have R2 := Lib.hid (R1.out.trans (Wrote.ahead hba hr))
  have W2 := Lib.hid hw
  have G2 : Hid (GlobK w2) := HG0.out _ (BW.out.trans ((R2.out.below W0.out).mono (by omega)))
  clear hw hr hba p3 p4
  have hs2 := R2.out.1.size
  have BX2 : Hid _ := box_cells BX.out R2.out (by omega) (by simp [Value.ownBlock])
  have p2 : w2.cell? ⟨w.heap.size, 2, none⟩ = some (.string ⟨k3.toArray⟩) := cell_of_heap BX2.out
  go_wp2_with fail
  have hba : Below w2.heap.size w2 (w2.alloc (.cells #[.string ⟨k3.toArray⟩] 9)) := below_alloc (Below.refl _ _) (Nat.le_refl _) _
  refine (wtext_any (w.heap.size + 2) (w.heap.size + 1) _ v2 _ (W2.out.later hba) (G2.out.g.later hba) (by omega) [k3] w2.heap.size (strs_lit _ [k3] _ rfl) (by have := W2.out.lt; omega) (fun e => by have := (W2.out.own.lt _ e).2; omega) (by simp) ?_).mono ?_
  · simp only [List.flatMap_cons, List.flatMap_nil, List.append_nil, List.nil_append, List.map_cons, List.map_nil]
    simp only [List.flatMap_cons, List.flatMap_nil, List.append_nil, List.length_append, List.map_cons, List.map_nil] at hlen ⊢
    omega
  rintro e w3 ⟨rfl, v3, hw, hr⟩
  have R3 := Lib.hid (R2.out.trans (Wrote.ahead hba hr))
  have W3 := Lib.hid hw
  have G3 : Hid (GlobK w3) := HG0.out _ (BW.out.trans ((R3.out.below W0.out).mono (by omega)))
  clear hw hr hba p2
  have hs3 := R3.out.1.size
  have BX3 : Hid _ := box_cells BX.out R3.out (by omega) (by simp [Value.ownBlock])
  have p5 : w3.cell? ⟨w.heap.size, 5, none⟩ = some (.slice a rl.length c) := cell_of_heap BX3.out
  go_wp2_with fail
  have hba : Below w3.heap.size w3 (w3.alloc (.cells #[.int .i64 (rl.length : Int)] 3)) := below_alloc (Below.refl _ _) (Nat.le_refl _) _
  refine (wnumber_any (w.heap.size + 2) (w.heap.size + 1) _ v3 _ (W3.out.later hba) (G3.out.g.later hba) (by omega) [(rl.length : Int)] (by intro n hn; simp only [List.mem_cons, List.not_mem_nil, or_false] at hn; rcases hn with rfl <;> assumption) (some ⟨w3.heap.size, 0, none⟩) 1 (ints_lit w3 [(rl.length : Int)] _ _ (by have := W3.out.lt; omega) (fun e => by have := (W3.out.own.lt _ e).2; omega)) ?_).mono ?_
  · simp only [List.flatMap_cons, List.flatMap_nil, List.append_nil, List.nil_append, List.map_cons, List.map_nil]
    simp only [List.flatMap_cons, List.flatMap_nil, List.append_nil, List.length_append, List.map_cons, List.map_nil] at hlen ⊢
    omega
  rintro e w4 ⟨rfl, v4, hw, hr⟩
  have R4 := Lib.hid (R3.out.trans (Wrote.ahead hba hr))
  have W4 := Lib.hid hw
  have G4 : Hid (GlobK w4) := HG0.out _ (BW.out.trans ((R4.out.below W0.out).mono (by omega)))
  clear hw hr hba p5
  have hs4 := R4.out.1.size
  have BX4 : Hid _ := box_cells BX.out R4.out (by omega) (by simp [Value.ownBlock])
  obtain ⟨L0, hL0⟩ : ∃ L0, [] ++ [[66], k1, k2].flatMap fieldL ++ [k4, k5].flatMap numL ++ [k3].flatMap fieldL ++ [(rl.length : Int)].flatMap numL = L0 := ⟨_, rfl⟩
  have HL0 : Hid (L = L0 ++ rl.flatMap rlL) := by show _ = _; rw [hlL.out, ← hL0]; simp
  rw [hL0] at W4
  clear hL0 hlen
  have hnl : rl.length ≤ 140737488351232 := HLN.out
  have p5 : w4.cell? ⟨w.heap.size, 5, none⟩ = some (.slice a rl.length c) := cell_of_heap BX4.out
  go_wp2
  clear p5
  go_loopg [37] rl.length (fun gg s37 wr => ∃ (i : Nat) (v' : Value), i ≤ rl.length ∧ rl.length - i ≤ gg ∧ s37 = .int .i64 i ∧ Hid (WrAt wr (w.heap.size + 2) (w.heap.size + 1) (L0 ++ (rl.take i).flatMap rlL) v') ∧ Hid (Wrote w0 wr (w.heap.size + 1) (.slice none 0 0) v') ∧ Hid (GlobK wr))
  case atStart => exact ⟨0, v4, Nat.zero_le _, by omega, rfl, (show Hid _ from by show WrAt _ _ _ _ _; simpa using W4.out), R4.out, G4.out⟩
  case round =>
    obtain ⟨i, v', hin, hgg, rfl, HW, HR, HGW⟩ := hrel
    clear W4 R4 G4 hs4
    have hsw := HR.out.1.size
    by_cases hlt : i < rl.length
    · obtain ⟨x, hx⟩ : ∃ x, rl[i]? = some x := ⟨_, List.getElem?_eq_getElem hlt⟩
      obtain ⟨G, o, he, hcl, hglt⟩ := HC.out i x hx
      obtain ⟨hf1, hf2⟩ := rl_flat hx
      obtain ⟨oi4, oi5, oi6⟩ := ob x (List.mem_of_getElem? hx)
      subst he
      have hcc := fun j u hj => HR.out.cell (cell_later' BW.out (hcl j u hj)) (show G ≠ w.heap.size + 1 by omega) (by simp [Value.ownBlock])
      have hltz : (i : Int) < (rl.length : Int) := by omega
      obtain ⟨r1, r2, r3, r4, r5, r6⟩ := x
      simp only at oi4 oi5 oi6
      have HF2 := Lib.hid hf2
      have HLEN : Hid ((L0 ++ (rl.take i).flatMap rlL ++ rlL ⟨r1, r2, r3, r4, r5, r6⟩).length ≤ 140737488351232) := by
        show _ ≤ _
        have h1 := hl
        rw [HL0.out, hf1] at h1
        simp only [List.length_append] at h1 ⊢
        omega
      have e0 := hcc 0 _ rfl
      have e1 := hcc 1 _ rfl
      have e2 := hcc 2 _ rfl
      have e3 := hcc 3 _ rfl
      have e4 := hcc 4 _ rfl
      have e5 := hcc 5 _ rfl
      simp only [Nat.add_zero] at e0
      clear hx hcl hcc hf1 hf2
      go_wp2_with fail
      clear e0 e1 e2 e3 e4 e5
      have hlen := HLEN.out
      rw [rlL_eq] at hlen
      have hbr : Below wr.heap.size wr (wr.alloc (.cells #[.string ⟨r1.toArray⟩, .string ⟨r2.toArray⟩, .bool r3, .int .i64 r4, .int .i64 r5, .int .i64 r6] 104)) := below_alloc (Below.refl _ _) (Nat.le_refl _) _
      have RX : Hid ((wr.alloc (.cells #[.string ⟨r1.toArray⟩, .string ⟨r2.toArray⟩, .bool r3, .int .i64 r4, .int .i64 r5, .int .i64 r6] 104)).heap[wr.heap.size]? = some (.cells #[.string ⟨r1.toArray⟩, .string ⟨r2.toArray⟩, .bool r3, .int .i64 r4, .int .i64 r5, .int .i64 r6] 104 (0, 0))) := heap_alloc_new _ _
      have WA := Lib.hid (HW.out.later hbr)
      have RA := Lib.hid (HR.out.later hbr)
      have GA := Lib.hid (HGW.out.later hbr)
      have LA : Hid (wr.heap.size + 1 = (wr.alloc (.cells #[.string ⟨r1.toArray⟩, .string ⟨r2.toArray⟩, .bool r3, .int .i64 r4, .int .i64 r5, .int .i64 r6] 104)).heap.size) := by show _ = _; simp
      have VA : Hid (∀ k, v'.ownBlock = some k → k < wr.heap.size) := fun k e => (HW.out.own.lt _ e).2
      clear hbr HW HR HGW
      generalize (wr.alloc (.cells #[.string ⟨r1.toArray⟩, .string ⟨r2.toArray⟩, .bool r3, .int .i64 r4, .int .i64 r5, .int .i64 r6] 104)) = wA at *
      generalize wr.heap.size = gR at *
      have hba : Below wA.heap.size wA (wA.alloc (.cells #[.string ⟨r1.toArray⟩, .string ⟨r2.toArray⟩] 9)) := below_alloc (Below.refl _ _) (Nat.le_refl _) _
      refine (wtext_any (w.heap.size + 2) (w.heap.size + 1) _ v' _ (WA.out.later hba) (GA.out.g.later hba) (by omega) [r1, r2] (gR + 1) (strs_lit _ [r1, r2] _ LA.out.symm) (by have := WA.out.lt; have := LA.out; omega) (fun e => by have := VA.out _ e; omega) (by have := LA.out; simp; omega) ?_).mono ?_
      · simp only [List.flatMap_cons, List.flatMap_nil, List.append_nil, List.nil_append, List.map_cons, List.map_nil]
        simp only [List.flatMap_cons, List.flatMap_nil, List.append_nil, List.length_append, List.map_cons, List.map_nil] at hlen ⊢
        omega
      rintro e wB ⟨rfl, vB, hw, hr⟩
      have RB := Lib.hid (RA.out.trans (Wrote.ahead hba hr))
      have WB := Lib.hid hw
      have GB : Hid (GlobK wB) := HG0.out _ (BW.out.trans ((RB.out.below W0.out).mono (by omega)))
      have XB : Hid (wB.heap[gR]? = some (.cells #[.string ⟨r1.toArray⟩, .string ⟨r2.toArray⟩, .bool r3, .int .i64 r4, .int .i64 r5, .int .i64 r6] 104 (0, 0))) := ((Wrote.ahead hba hr).1.block gR (Array.getElem?_eq_some_iff.1 RX.out).1 (fun e => e.elim (by omega) (fun e => (by have := VA.out _ e.symm; omega)))).trans RX.out
      have OB : Hid (vB.ownBlock = v'.ownBlock ∨ ∀ g, vB.ownBlock = some g → gR < g) := (Wrote.ahead hba hr).2.imp id (fun h g e => by have := h g e; have := LA.out; omega)
      clear hw hr hba
      have hsB := RB.out.1.size
      have f2 : wB.cell? ⟨gR, 2, none⟩ = some (.bool r3) := cell_of_heap XB.out
      go_wp2_with fail
      have hba : Below wB.heap.size wB (wB.alloc (.cells #[.bool r3] 4)) := below_alloc (Below.refl _ _) (Nat.le_refl _) _
      refine (wflag_any (w.heap.size + 2) (w.heap.size + 1) _ vB _ (WB.out.later hba) (GB.out.g.later hba) (by omega) [r3] wB.heap.size (bools_lit _ [r3] _ rfl) (by have := WB.out.lt; omega) (fun e => by have := (WB.out.own.lt _ e).2; omega) ?_).mono ?_
      · simp only [List.flatMap_cons, List.flatMap_nil, List.append_nil, List.nil_append, List.map_cons, List.map_nil]
        simp only [List.flatMap_cons, List.flatMap_nil, List.append_nil, List.length_append, List.map_cons, List.map_nil] at hlen ⊢
        omega
      rintro e wC ⟨rfl, vC, hw, hr⟩
      have RC := Lib.hid (RB.out.trans (Wrote.ahead hba hr))
      have WC := Lib.hid hw
      have GC : Hid (GlobK wC) := HG0.out _ (BW.out.trans ((RC.out.below W0.out).mono (by omega)))
      have XC : Hid (wC.heap[gR]? = some (.cells #[.string ⟨r1.toArray⟩, .string ⟨r2.toArray⟩, .bool r3, .int .i64 r4, .int .i64 r5, .int .i64 r6] 104 (0, 0))) := ((Wrote.ahead hba hr).1.block gR (Array.getElem?_eq_some_iff.1 XB.out).1 (fun e => e.elim (by omega) (fun e => (by rcases OB.out with h | h; exact absurd (VA.out _ (h.symm.trans e.symm)) (by omega); exact absurd (h _ e.symm) (by omega))))).trans XB.out
      have hsB := RB.out.1.size
      have LB : Hid (gR < wB.heap.size) := (Array.getElem?_eq_some_iff.1 XB.out).1
      have OC : Hid (vC.ownBlock = v'.ownBlock ∨ ∀ g, vC.ownBlock = some g → gR < g) := by
        rcases (Wrote.ahead hba hr).2 with h | h
        · rcases OB.out with h2 | h2
          · exact .inl (h.trans h2)
          · exact .inr (fun g e => h2 g (h.symm.trans e))
        · exact .inr (fun g e => by have := h g e; have := LB.out; omega)
      clear hw hr hba f2
      have hsC := RC.out.1.size
      have f3 : wC.cell? ⟨gR, 3, none⟩ = some (.int .i64 r4) := cell_of_heap XC.out
      have f4 : wC.cell? ⟨gR, 4, none⟩ = some (.int .i64 r5) := cell_of_heap XC.out
      have f5 : wC.cell? ⟨gR, 5, none⟩ = some (.int .i64 r6) := cell_of_heap XC.out
      go_wp2_with fail
      have hba : Below wC.heap.size wC (wC.alloc (.cells #[.int .i64 r4, .int .i64 r5, .int .i64 r6] 3)) := below_alloc (Below.refl _ _) (Nat.le_refl _) _
      refine (wnumber_any (w.heap.size + 2) (w.heap.size + 1) _ vC _ (WC.out.later hba) (GC.out.g.later hba) (by omega) [r4, r5, r6] (by intro n hn; simp only [List.mem_cons, List.not_mem_nil, or_false] at hn; rcases hn with rfl | rfl | rfl <;> assumption) (some ⟨wC.heap.size, 0, none⟩) 3 (ints_lit wC [r4, r5, r6] _ _ (by have := WC.out.lt; omega) (fun e => by have := (WC.out.own.lt _ e).2; omega)) ?_).mono ?_
      · simp only [List.flatMap_cons, List.flatMap_nil, List.append_nil, List.nil_append, List.map_cons, List.map_nil]
        simp only [List.flatMap_cons, List.flatMap_nil, List.append_nil, List.length_append, List.map_cons, List.map_nil] at hlen ⊢
        omega
      rintro e wD ⟨rfl, vD, hw, hr⟩
      have RD := Lib.hid (RC.out.trans (Wrote.ahead hba hr))
      have WD := Lib.hid hw
      have GD : Hid (GlobK wD) := HG0.out _ (BW.out.trans ((RD.out.below W0.out).mono (by omega)))
      have XD : Hid (wD.heap[gR]? = some (.cells #[.string ⟨r1.toArray⟩, .string ⟨r2.toArray⟩, .bool r3, .int .i64 r4, .int .i64 r5, .int .i64 r6] 104 (0, 0))) := ((Wrote.ahead hba hr).1.block gR (Array.getElem?_eq_some_iff.1 XC.out).1 (fun e => e.elim (by omega) (fun e => (by rcases OC.out with h | h; exact absurd (VA.out _ (h.symm.trans e.symm)) (by omega); exact absurd (h _ e.symm) (by omega))))).trans XC.out
      clear hw hr hba f3 f4 f5
      have hsD := RD.out.1.size
      go_wp2
      go_roundg (rl.length - (i + 1))
      case measure => omega
      case rel =>
        refine ⟨i + 1, vD, by omega, Nat.le_refl _, by go_num, ?_, RD, GD⟩
        show WrAt _ _ _ _ _
        have e := WD.out
        rw [HF2.out, ← List.append_assoc, rlL_eq]
        simpa using e
    · obtain rfl : i = rl.length := by omega
      have HWL : Hid (WrAt wr (w.heap.size + 2) (w.heap.size + 1) L v') := by
        show WrAt _ _ _ _ _
        rw [HL0.out]
        have e := HW.out
        rwa [List.take_length] at e
      have hne : Hid (L ≠ []) := by show L ≠ []; rw [hlL.out]; simp [fieldL]
      go_wp2_with fail
      have HTG : Hid (∀ W, Below (w.heap.size + 2) wr W → GlobK W) := fun W hW => HG0.out _ ((BW.out.trans ((HR.out.below W0.out).mono (by omega))).trans (hW.mono (by omega)))
      refine Calls.mono (toldBk_any _ _ L v' _ HWL.out HTG.out hne.out hl) ?_
      rw [hoks.out]
      rintro e wz ⟨rfl, hbz⟩
      have BZ : Hid (Below w.heap.size w wz) := (BW.out.trans ((HR.out.below W0.out).mono (by omega))).trans (hbz.mono (by omega))
      clear hbz
      cases ok
      all_goals
        go_wp2
        go_ret2
        exact ⟨rfl, BZ.out⟩

end Go.Proofs.YtajmkkjlhmeolaaGreatDoor
