/-
  meta.ReadBucket: the walk. (Printed by wip/gen/mtbk.py.)
-/
import Derived.Test.YtajmkkjlhmeolaaGreatDoorMtReadVer
namespace Go.Proofs.YtajmkkjlhmeolaaGreatDoor
open Go.RowKit

theorem info_rule : ∃ i, Tryz.prog.info? 104 = some i ∧ i.zero = some (.agg #[.string ⟨#[]⟩, .string ⟨#[]⟩, .bool false, .int .i64 0, .int .i64 0, .int .i64 0]) ∧ i.size = 6 ∧ i.bytes = 64 :=
  info_parts (show (Tryz.prog.info? 104).map (fun i => (i.zero, i.size, i.bytes)) = some (some (.agg #[.string ⟨#[]⟩, .string ⟨#[]⟩, .bool false, .int .i64 0, .int .i64 0, .int .i64 0]), 6, 64) by kernel_rfl)
def BkV.cells (p : BkV) (v : Value) : Array Value := #[.string ⟨p.name.toArray⟩, .string ⟨p.owner.toArray⟩, .string ⟨p.policy.toArray⟩, .int .i64 p.when_, .int .i64 p.mode, v]
def bkZ : BkV := ⟨[], [], [], 0, 0, []⟩
def bkZeroC : Array Value := bkZ.cells (.slice none 0 0)
def RlV.cells (r : RlV) : List Value := [.string ⟨r.id.toArray⟩, .string ⟨r.pre.toArray⟩, .bool r.on, .int .i64 r.days, .int .i64 r.nonc, .int .i64 r.abort]
def rlRows (l : List RlV) : List (List Value) := l.map RlV.cells
theorem rlRows_len (l : List RlV) : (rlRows l).length = l.length := by simp [rlRows]
theorem rlRows_six (l : List RlV) : ∀ r ∈ rlRows l, r.length = 6 := by
  intro r hr
  simp only [rlRows, List.mem_map] at hr
  obtain ⟨_, _, rfl⟩ := hr
  rfl
/-- one cell is stored -/
theorem wp_store_cell {P : Program} {o : Oper} {a : Act} {w : World} {K : Act → World → Prop} {Q : Exit → Act → World → Prop} (ty : TypeId) (x y : Operand) (ho : o.op = .store ty x y)
    (g off : Nat) (v : Value) (hx : a.eval x = .pointer (some ⟨g, off, none⟩)) (hy : a.eval y = v) (h1 : v.oneCell' = true) (old : Array Value)
    (t : TypeId) (hg : w.heap[g]? = some (.cells old t (0, 0))) (hoff : off < old.size) (hi : (P.info? ty).map (·.size) = some 1)
    (h : K (a.put o.dst undef) (w.setRow g (old.setIfInBounds off v))) : o.wp P a w K Q := by
  unfold Oper.wp execOp
  simp only [ho, hx, hy, Instr.storeAt, Instr.sureAddr, Sem.run_bind, Sem.run_pure, Result.andThen_ok, run_storeVar_at w g off ty t old v hg hoff hi h1]
  exact h
theorem RdAt.rowFar {w wk : World} {b : Nat} {f : Fs} {zc : Array Value} {zt : TypeId} (h : RdAt w wk b f zc zt) {g : Nat} (new : Array Value) (hg : b < g) : RdAt w (wk.setRow g new) b f zc zt :=
  h.setRow new (by have := h.hb; omega)
/-- a row was appended and the slice laid into its cell (the block said whole) -/
theorem RowsAt.pushRow {w wr w1 : World} {b gB : Nat} {f : Fs} {cs zc new : Array Value} {T e : TypeId} {sz : Nat} {v : Value} {rows : List (List Value)} {news : List Value} {g cap : Nat} (h : RowsAt w wr b gB f cs zc T e sz v rows)
    (hown : w1.ownsRow (gB + 1) e sz (.slice (some ⟨g, 0, none⟩) (rows.length + 1) cap) (rows.length + 1) (rows.flatten ++ news)) (hgr : wr.grownBy w1 v.ownBlock) :
    RowsAt w (w1.setRow gB new) b gB f new zc T e sz (.slice (some ⟨g, 0, none⟩) (rows.length + 1) cap) (rows ++ [news]) := by
  have hv : ∀ x, v.ownBlock = some x → gB + 1 ≤ x := fun x hx => by
    rcases h.own.2 with ⟨rfl, _⟩ | ⟨y, _, _, rfl, hy, _⟩
    · cases hx
    · simp only [Value.ownBlock, Option.some.injEq] at hx; omega
  have hb := h.farb
  have R1 := h.rd.grown hgr (fun x hx => by have := hv x hx; omega)
  have X1 := h.box.grown hgr (fun hx => by have := hv _ hx; omega)
  refine ⟨R1.rowFar _ hb, ⟨setRow_heap _ _ _ _ _ _ X1.at_, X1.far⟩, ?_⟩
  have hlen : (rows ++ [news]).length = rows.length + 1 := by simp
  have hfl : (rows ++ [news]).flatten = rows.flatten ++ news := by simp
  rw [hlen, hfl]
  exact own_kept hown fun x h1 _ => setRow_other _ _ _ _ (by omega)

/-- what ReadBucket leaves -/
def BkOut (o : Option BkV) (w : World) (e : Ending) (w' : World) : Prop :=
  ∃ v, e = .returned (.tuple #[.agg ((o.getD bkZ).cells v), .int .i64 (if o.isSome then 0 else 59)]) ∧ SlAt w' 6 v (rlRows (o.getD bkZ).rules) ∧ Below w.heap.size w w'

set_option maxHeartbeats 8000000 in
set_option maxRecDepth 100000 in
theorem readBk_any (s : List UInt8) (w : World) (hG : GlobK w) (hl : s.length ≤ 140737488351232) : Calls Tryz.prog 26 #[.string ⟨s.toArray⟩] w (BkOut (readBkL s) w) := by
  have HG : Hid (∀ W, Below w.heap.size w W → GlobK W) := fun W hW => hG.later hW
  have HRES : Hid (readBkL s = if doneF (rulesF (numberF 0 10 ⟨(rb6 s).2.rest, (rb6 s).2.bad || !bucketB (rb2 s).1⟩).1.toNat (numberF 0 10 ⟨(rb6 s).2.rest, (rb6 s).2.bad || !bucketB (rb2 s).1⟩).2).2 = 0 then some ⟨(rb2 s).1, (rb3 s).1, (rb6 s).1, (rb4 s).1, (rb5 s).1, (rulesF (numberF 0 10 ⟨(rb6 s).2.rest, (rb6 s).2.bad || !bucketB (rb2 s).1⟩).1.toNat (numberF 0 10 ⟨(rb6 s).2.rest, (rb6 s).2.bad || !bucketB (rb2 s).1⟩).2).1⟩ else none) := rfl
  obtain ⟨res, hres⟩ : ∃ r, Hid (readBkL s = r) := ⟨_, rfl⟩
  rw [hres.out] at HRES ⊢
  clear hres
  have R0 := Lib.hid (RdAt.start hG.g s bkZeroC 41)
  obtain ⟨b, hb⟩ : ∃ b, b = w.heap.size + 1 := ⟨_, rfl⟩
  rw [← hb] at R0
  have l1 : (rb1 s).rest.length ≤ 140737488351232 := Nat.le_trans (ofF_len _ _) hl
  have l2 : (rb2 s).2.rest.length ≤ 140737488351232 := by unfold rb2; exact Nat.le_trans ((textF_len (rb1 s)).2) l1
  have m2 : (rb2 s).1.length ≤ 140737488351232 := by unfold rb2; exact Nat.le_trans ((textF_len (rb1 s)).1) l1
  have l3 : (rb3 s).2.rest.length ≤ 140737488351232 := by unfold rb3; exact Nat.le_trans ((shortF_len 100 (rb2 s).2).2) l2
  have m3 : (rb3 s).1.length ≤ 140737488351232 := by unfold rb3; exact Nat.le_trans ((shortF_len 100 (rb2 s).2).1) l2
  have l4 : (rb4 s).2.rest.length ≤ 140737488351232 := by unfold rb4; exact Nat.le_trans (numberF_len 0 253402300799 (rb3 s).2) l3
  have l5 : (rb5 s).2.rest.length ≤ 140737488351232 := by unfold rb5; exact Nat.le_trans (numberF_len 0 2 (rb4 s).2) l4
  have l6 : (rb6 s).2.rest.length ≤ 140737488351232 := by unfold rb6; exact Nat.le_trans ((shortF_len 4000 (rb5 s).2).2) l5
  have m6 : (rb6 s).1.length ≤ 140737488351232 := by unfold rb6; exact Nat.le_trans ((shortF_len 4000 (rb5 s).2).1) l5
  have C1 : Hid (∀ W, RdAt w W b ⟨s, false⟩ bkZeroC 41 → Calls Tryz.prog 59 #[.pointer (some ⟨b, 0, none⟩), .string ⟨#[66]⟩] W (BoolOut b (!(rb1 s).bad) (rb1 s) W)) := fun W h => of_any b [66] ⟨s, false⟩ W rfl h.glob h.inf hl
  have C2 : Hid (∀ W, RdAt w W b (rb1 s) bkZeroC 41 → Calls Tryz.prog 60 #[.pointer (some ⟨b, 0, none⟩)] W (TextOut b (rb2 s).1 (rb2 s).2 W)) := fun W h => text_any b (rb1 s) W h.glob h.inf l1
  have C3 : Hid (∀ W, RdAt w W b (rb2 s).2 bkZeroC 41 → Calls Tryz.prog 61 #[.pointer (some ⟨b, 0, none⟩), .int .i64 100] W (TextOut b (rb3 s).1 (rb3 s).2 W)) := fun W h => short_any b 100 (rb2 s).2 W (by unfold IntOK; omega) h.glob h.inf l2
  have C4 : Hid (∀ W, RdAt w W b (rb3 s).2 bkZeroC 41 → Calls Tryz.prog 62 #[.pointer (some ⟨b, 0, none⟩)] W (NumOut b (rb4 s).1 (rb4 s).2 W)) := fun W h => when_any b (rb3 s).2 W h.glob h.big h.inf l3
  have C5 : Hid (∀ W, RdAt w W b (rb4 s).2 bkZeroC 41 → Calls Tryz.prog 63 #[.pointer (some ⟨b, 0, none⟩), .int .i64 0, .int .i64 2] W (NumOut b (rb5 s).1 (rb5 s).2 W)) := fun W h => number_field_any b 0 2 (rb4 s).2 W (by unfold IntOK; omega) (by unfold IntOK; omega) h.glob h.big h.inf l4
  have C6 : Hid (∀ W, RdAt w W b (rb5 s).2 bkZeroC 41 → Calls Tryz.prog 61 #[.pointer (some ⟨b, 0, none⟩), .int .i64 4000] W (TextOut b (rb6 s).1 (rb6 s).2 W)) := fun W h => short_any b 4000 (rb5 s).2 W (by unfold IntOK; omega) h.glob h.inf l5
  have L6 := Lib.hid l6
  have CB := Lib.hid (fun W (h : GlobK W) => bucket_any (rb2 s).1 (by omega) W h)
  clear m2 m3 m6
  clear l1 l2 l3 l4 l5 l6
  generalize rb1 s = f1 at *
  generalize rb2 s = p2 at *
  generalize rb3 s = p3 at *
  generalize rb4 s = p4 at *
  generalize rb5 s = p5 at *
  generalize rb6 s = p6 at *
  obtain ⟨t2, f2⟩ := p2
  obtain ⟨t3, f3⟩ := p3
  obtain ⟨n4, f4⟩ := p4
  obtain ⟨n5, f5⟩ := p5
  obtain ⟨t6, f6⟩ := p6
  simp only at *
  have HB := Lib.hid hb
  clear hG
  go_enter Tryz.func26, Tryz.ntmps26
  go_wp2_with fail
  rw [← hb]
  clear hb
  refine (C1.out _ R0.out).mono ?_
  rintro e w1 ⟨rfl, hf1, hg1⟩
  have R1 := Lib.hid (R0.out.next hf1 hg1)
  clear hf1 hg1 R0
  go_wp2_with fail
  go_cut [5] (fun s5 wx => ∃ gB : Nat, s5 = .pointer (some ⟨gB, 0, none⟩) ∧ RdAt w wx b f6 bkZeroC 41 ∧ BoxAt w wx gB #[.string ⟨t2.toArray⟩, .string ⟨t3.toArray⟩, .string ⟨t6.toArray⟩, .int .i64 n4, .int .i64 n5, .slice none 0 0] 41)
  case first =>
    refine wp_region_held_drew (S := (fun _ => True)) (by kernel_rfl) trivial (fun hS0 => ?_)
    have Rw2 : Hid (RdAt w w1.drew b f1 bkZeroC 41) := R1.out.later (Below.refl _ _).drew
    generalize w1.drew = w2 at Rw2 ⊢
    refine wpAnyH_take (i := 0) (oi := { dst := some 13, op := _, type := _, pos := _, after := _, guard := _ }) (v := ?_) rfl (by kernel_rfl) (by kernel_rfl) (by kernel_rfl) (fun _ _ _ h => h) (Or.inl ⟨by kernel_rfl, ?_⟩) (by assumption) ?_
    rotate_left
    · (intro w hSw; (try dsimp only at hSw); go_simp); all_goals (with_reducible rfl)
    try simp only [Act.put, List.setIfInBounds_toArray, List.set_cons_zero, List.set_cons_succ]
    refine wpAnyH_take (i := 1) (oi := { dst := some 14, op := _, type := _, pos := _, after := _, guard := _ }) (v := ?_) rfl (by kernel_rfl) (by kernel_rfl) (by kernel_rfl) (fun _ _ _ h => h) (Or.inl ⟨by kernel_rfl, ?_⟩) (by assumption) ?_
    rotate_left
    · (intro w hSw; (try dsimp only at hSw); go_simp); all_goals (with_reducible rfl)
    try simp only [Act.put, List.setIfInBounds_toArray, List.set_cons_zero, List.set_cons_succ]
    refine wpAnyH_take (i := 2) (oi := { dst := some 15, op := _, type := _, pos := _, after := _, guard := _ }) (v := ?_) rfl (by kernel_rfl) (by kernel_rfl) (by kernel_rfl) (fun _ _ _ h => h) (Or.inl ⟨by kernel_rfl, ?_⟩) (by assumption) ?_
    rotate_left
    · (intro w hSw; (try dsimp only at hSw); go_simp); all_goals (with_reducible rfl)
    try simp only [Act.put, List.setIfInBounds_toArray, List.set_cons_zero, List.set_cons_succ]
    refine wpAnyH_take (i := 4) (oi := { dst := some 17, op := _, type := _, pos := _, after := _, guard := _ }) (v := ?_) rfl (by kernel_rfl) (by kernel_rfl) (by kernel_rfl) (fun _ _ _ h => h) (Or.inl ⟨by kernel_rfl, ?_⟩) (by assumption) ?_
    rotate_left
    · (intro w hSw; (try dsimp only at hSw); go_simp); all_goals (with_reducible rfl)
    try simp only [Act.put, List.setIfInBounds_toArray, List.set_cons_zero, List.set_cons_succ]
    refine wpAnyH_take (i := 5) (oi := { dst := some 18, op := _, type := _, pos := _, after := _, guard := _ }) (v := ?_) rfl (by kernel_rfl) (by kernel_rfl) (by kernel_rfl) (fun _ _ _ h => h) (Or.inl ⟨by kernel_rfl, ?_⟩) (by assumption) ?_
    rotate_left
    · (intro w hSw; (try dsimp only at hSw); go_simp); all_goals (with_reducible rfl)
    try simp only [Act.put, List.setIfInBounds_toArray, List.set_cons_zero, List.set_cons_succ]
    refine wpAnyH_take (i := 6) (oi := { dst := some 19, op := _, type := _, pos := _, after := _, guard := _ }) (v := ?_) rfl (by kernel_rfl) (by kernel_rfl) (by kernel_rfl) (fun _ _ _ h => h) (Or.inl ⟨by kernel_rfl, ?_⟩) (by assumption) ?_
    rotate_left
    · (intro w hSw; (try dsimp only at hSw); go_simp); all_goals (with_reducible rfl)
    try simp only [Act.put, List.setIfInBounds_toArray, List.set_cons_zero, List.set_cons_succ]
    refine wpAnyH_take (i := 8) (oi := { dst := some 21, op := _, type := _, pos := _, after := _, guard := _ }) (v := ?_) rfl (by kernel_rfl) (by kernel_rfl) (by kernel_rfl) (fun _ _ _ h => h) (Or.inl ⟨by kernel_rfl, ?_⟩) (by assumption) ?_
    rotate_left
    · (intro w hSw; (try dsimp only at hSw); go_simp); all_goals (with_reducible rfl)
    try simp only [Act.put, List.setIfInBounds_toArray, List.set_cons_zero, List.set_cons_succ]
    refine wpAnyH_take (i := 10) (oi := { dst := some 23, op := _, type := _, pos := _, after := _, guard := _ }) (v := ?_) rfl (by kernel_rfl) (by kernel_rfl) (by kernel_rfl) (fun _ _ _ h => h) (Or.inl ⟨by kernel_rfl, ?_⟩) (by assumption) ?_
    rotate_left
    · (intro w hSw; (try dsimp only at hSw); go_simp); all_goals (with_reducible rfl)
    try simp only [Act.put, List.setIfInBounds_toArray, List.set_cons_zero, List.set_cons_succ]
    refine wpAnyH_take (i := 11) (oi := { dst := some 24, op := _, type := _, pos := _, after := _, guard := _ }) (v := ?_) rfl (by kernel_rfl) (by kernel_rfl) (by kernel_rfl) (fun _ _ _ h => h) (Or.inl ⟨by kernel_rfl, ?_⟩) (by assumption) ?_
    rotate_left
    · (intro w hSw; (try dsimp only at hSw); go_simp); all_goals (with_reducible rfl)
    try simp only [Act.put, List.setIfInBounds_toArray, List.set_cons_zero, List.set_cons_succ]
    refine wpAnyH_take (i := 12) (oi := { dst := some 25, op := _, type := _, pos := _, after := _, guard := _ }) (v := ?_) rfl (by kernel_rfl) (by kernel_rfl) (by kernel_rfl) (fun _ _ _ h => h) (Or.inl ⟨by kernel_rfl, ?_⟩) (by assumption) ?_
    rotate_left
    · (intro w hSw; (try dsimp only at hSw); go_simp); all_goals (with_reducible rfl)
    try simp only [Act.put, List.setIfInBounds_toArray, List.set_cons_zero, List.set_cons_succ]
    refine wpAnyH_take (i := 14) (oi := { dst := some 27, op := _, type := _, pos := _, after := _, guard := _ }) (v := ?_) rfl (by kernel_rfl) (by kernel_rfl) (by kernel_rfl) (fun _ _ _ h => h) (Or.inl ⟨by kernel_rfl, ?_⟩) (by assumption) ?_
    rotate_left
    · (intro w hSw; (try dsimp only at hSw); go_simp); all_goals (with_reducible rfl)
    try simp only [Act.put, List.setIfInBounds_toArray, List.set_cons_zero, List.set_cons_succ]
    refine wpAnyH_take (i := 15) (oi := { dst := some 28, op := _, type := _, pos := _, after := _, guard := _ }) (v := ?_) rfl (by kernel_rfl) (by kernel_rfl) (by kernel_rfl) (fun _ _ _ h => h) (Or.inl ⟨by kernel_rfl, ?_⟩) (by assumption) ?_
    rotate_left
    · (intro w hSw; (try dsimp only at hSw); go_simp); all_goals (with_reducible rfl)
    try simp only [Act.put, List.setIfInBounds_toArray, List.set_cons_zero, List.set_cons_succ]
    refine wpAnyH_take (i := 16) (oi := { dst := some 29, op := _, type := _, pos := _, after := _, guard := _ }) (v := ?_) rfl (by kernel_rfl) (by kernel_rfl) (by kernel_rfl) (fun _ _ _ h => h) (Or.inl ⟨by kernel_rfl, ?_⟩) (by assumption) ?_
    rotate_left
    · (intro w hSw; (try dsimp only at hSw); go_simp); all_goals (with_reducible rfl)
    try simp only [Act.put, List.setIfInBounds_toArray, List.set_cons_zero, List.set_cons_succ]
    refine wpAnyH_ready (rs := [3, 19]) (by kernel_rfl) (by simp) ?_
    refine (AllReadyH.cons (o := { dst := some 16, op := _, type := _, pos := _, after := _, guard := _ }) rfl (fun K hK => ?_) (AllReadyH.cons (o := { dst := some 5, op := _, type := _, pos := _, after := _, guard := _ }) rfl (fun K hK => ?_) AllReadyH.nil))
    · rw [if_pos (by kernel_rfl)]
      refine wp_call_go Tryz.func60 (by kernel_rfl) (by kernel_rfl) (by rfl) (C2.out _ Rw2.out) (by rfl) ?_
      rintro e v1 ⟨rfl, hfv1, hgv1⟩
      refine ⟨_, rfl, ?_⟩
      have Rv1 := Lib.hid (Rw2.out.next hfv1 hgv1)
      clear hfv1 hgv1 Rw2 C2
      refine hK.out _ _ trivial (fun _ => ?_)
      clear hK K
      try simp only [Act.put, List.setIfInBounds_toArray, List.set_cons_zero, List.set_cons_succ]
      refine wpAnyH_ready (rs := [7, 19]) (by kernel_rfl) (by simp) ?_
      refine (AllReadyH.cons (o := { dst := some 20, op := _, type := _, pos := _, after := _, guard := _ }) rfl (fun K hK => ?_) (AllReadyH.cons (o := { dst := some 5, op := _, type := _, pos := _, after := _, guard := _ }) rfl (fun K hK => ?_) AllReadyH.nil))
      · rw [if_pos (by kernel_rfl)]
        refine wp_call_go Tryz.func61 (by kernel_rfl) (by kernel_rfl) (by rfl) (C3.out _ Rv1.out) (by rfl) ?_
        rintro e v2 ⟨rfl, hfv2, hgv2⟩
        refine ⟨_, rfl, ?_⟩
        have Rv2 := Lib.hid (Rv1.out.next hfv2 hgv2)
        clear hfv2 hgv2 Rv1 C3
        refine hK.out _ _ trivial (fun _ => ?_)
        clear hK K
        try simp only [Act.put, List.setIfInBounds_toArray, List.set_cons_zero, List.set_cons_succ]
        refine wpAnyH_ready (rs := [9, 19]) (by kernel_rfl) (by simp) ?_
        refine (AllReadyH.cons (o := { dst := some 22, op := _, type := _, pos := _, after := _, guard := _ }) rfl (fun K hK => ?_) (AllReadyH.cons (o := { dst := some 5, op := _, type := _, pos := _, after := _, guard := _ }) rfl (fun K hK => ?_) AllReadyH.nil))
        · rw [if_pos (by kernel_rfl)]
          refine wp_call_go Tryz.func62 (by kernel_rfl) (by kernel_rfl) (by rfl) (C4.out _ Rv2.out) (by rfl) ?_
          rintro e v3 ⟨rfl, hfv3, hgv3⟩
          refine ⟨_, rfl, ?_⟩
          have Rv3 := Lib.hid (Rv2.out.next hfv3 hgv3)
          clear hfv3 hgv3 Rv2 C4
          refine hK.out _ _ trivial (fun _ => ?_)
          clear hK K
          try simp only [Act.put, List.setIfInBounds_toArray, List.set_cons_zero, List.set_cons_succ]
          refine wpAnyH_ready (rs := [13, 19]) (by kernel_rfl) (by simp) ?_
          refine (AllReadyH.cons (o := { dst := some 26, op := _, type := _, pos := _, after := _, guard := _ }) rfl (fun K hK => ?_) (AllReadyH.cons (o := { dst := some 5, op := _, type := _, pos := _, after := _, guard := _ }) rfl (fun K hK => ?_) AllReadyH.nil))
          · rw [if_pos (by kernel_rfl)]
            refine wp_call_go Tryz.func63 (by kernel_rfl) (by kernel_rfl) (by rfl) (C5.out _ Rv3.out) (by rfl) ?_
            rintro e v4 ⟨rfl, hfv4, hgv4⟩
            refine ⟨_, rfl, ?_⟩
            have Rv4 := Lib.hid (Rv3.out.next hfv4 hgv4)
            clear hfv4 hgv4 Rv3 C5
            refine hK.out _ _ trivial (fun _ => ?_)
            clear hK K
            try simp only [Act.put, List.setIfInBounds_toArray, List.set_cons_zero, List.set_cons_succ]
            refine wpAnyH_ready (rs := [17, 19]) (by kernel_rfl) (by simp) ?_
            refine (AllReadyH.cons (o := { dst := some 30, op := _, type := _, pos := _, after := _, guard := _ }) rfl (fun K hK => ?_) (AllReadyH.cons (o := { dst := some 5, op := _, type := _, pos := _, after := _, guard := _ }) rfl (fun K hK => ?_) AllReadyH.nil))
            · rw [if_pos (by kernel_rfl)]
              refine wp_call_go Tryz.func61 (by kernel_rfl) (by kernel_rfl) (by rfl) (C6.out _ Rv4.out) (by rfl) ?_
              rintro e v5 ⟨rfl, hfv5, hgv5⟩
              refine ⟨_, rfl, ?_⟩
              have Rv5 := Lib.hid (Rv4.out.next hfv5 hgv5)
              clear hfv5 hgv5 Rv4 C6
              refine hK.out _ _ trivial (fun _ => ?_)
              clear hK K
              try simp only [Act.put, List.setIfInBounds_toArray, List.set_cons_zero, List.set_cons_succ]
              refine wpAnyH_take (i := 18) (oi := { dst := some 31, op := _, type := _, pos := _, after := _, guard := _ }) (v := ?_) rfl (by kernel_rfl) (by kernel_rfl) (by kernel_rfl) (fun _ _ _ h => h) (Or.inl ⟨by kernel_rfl, ?_⟩) (by assumption) ?_
              rotate_left
              · (intro w hSw; (try dsimp only at hSw); go_simp); all_goals (with_reducible rfl)
              try simp only [Act.put, List.setIfInBounds_toArray, List.set_cons_zero, List.set_cons_succ]
              refine wpAnyH_ready (rs := [19]) (by kernel_rfl) (by simp) ?_
              refine (AllReadyH.cons (o := { dst := some 5, op := _, type := _, pos := _, after := _, guard := _ }) rfl (fun K hK => ?_) AllReadyH.nil)
              rw [if_pos (by kernel_rfl)]
              go_wp2_with fail
              have Rv6 := Lib.hid (Rv5.out.later (below_alloc (Below.refl _ _) (Nat.le_refl _) (.cells bkZeroC 41)))
              have Xv6 := Lib.hid (BoxAt.new Rv5.out bkZeroC 41)
              refine hK.out _ (v5.alloc (.cells bkZeroC 41)) trivial (fun _ => ?_)
              generalize v5.alloc (.cells bkZeroC 41) = v6 at Rv6 Xv6 ⊢
              generalize v5.heap.size = gB at Xv6 ⊢
              clear Rv5
              clear hK K
              try simp only [Act.put, List.setIfInBounds_toArray, List.set_cons_zero, List.set_cons_succ]
              refine wpAnyH_ready (rs := [20]) (by kernel_rfl) (by simp) ?_
              refine (AllReadyH.cons (o := { dst := none, op := _, type := _, pos := _, after := _, guard := _ }) rfl (fun K hK => ?_) AllReadyH.nil)
              rw [if_pos (by kernel_rfl)]
              refine wp_store_row 41 _ _ (by rfl) _ #[.string ⟨t2.toArray⟩, .string ⟨t3.toArray⟩, .string ⟨t6.toArray⟩, .int .i64 n4, .int .i64 n5, .slice none 0 0] (by rfl) (by rfl) 41 bkZeroC (Xv6.out).at_ (by kernel_rfl) (by kernel_rfl) (by kernel_rfl) ?_
              refine hK.out _ _ trivial (fun _ => ?_)
              clear hK K
              try simp only [Act.put]
              refine wpAnyH_done (by kernel_rfl) ?_ _
              go_wp2_with fail
              go_meet
              case rel => exact ⟨_, rfl, Rv6.out.setRow _ Xv6.out.far, Xv6.out.set _⟩
            · rw [if_pos (by kernel_rfl)]
              go_wp2_with fail
              have Rv8 := Lib.hid (Rv4.out.later (below_alloc (Below.refl _ _) (Nat.le_refl _) (.cells bkZeroC 41)))
              have Xv8 := Lib.hid (BoxAt.new Rv4.out bkZeroC 41)
              refine hK.out _ (v4.alloc (.cells bkZeroC 41)) trivial (fun _ => ?_)
              generalize v4.alloc (.cells bkZeroC 41) = v8 at Rv8 Xv8 ⊢
              generalize v4.heap.size = gB at Xv8 ⊢
              clear Rv4
              clear hK K
              try simp only [Act.put, List.setIfInBounds_toArray, List.set_cons_zero, List.set_cons_succ]
              refine wpAnyH_ready (rs := [17]) (by kernel_rfl) (by simp) ?_
              refine (AllReadyH.cons (o := { dst := some 30, op := _, type := _, pos := _, after := _, guard := _ }) rfl (fun K hK => ?_) AllReadyH.nil)
              rw [if_pos (by kernel_rfl)]
              refine wp_call_go Tryz.func61 (by kernel_rfl) (by kernel_rfl) (by rfl) (C6.out _ Rv8.out) (by rfl) ?_
              rintro e v9 ⟨rfl, hfv9, hgv9⟩
              refine ⟨_, rfl, ?_⟩
              have Rv9 := Lib.hid (Rv8.out.next hfv9 hgv9)
              have Xv9 := Lib.hid (Xv8.out.next Rv8.out.hb hgv9)
              clear hfv9 hgv9 Rv8 C6 Xv8
              refine hK.out _ _ trivial (fun _ => ?_)
              clear hK K
              try simp only [Act.put, List.setIfInBounds_toArray, List.set_cons_zero, List.set_cons_succ]
              refine wpAnyH_take (i := 18) (oi := { dst := some 31, op := _, type := _, pos := _, after := _, guard := _ }) (v := ?_) rfl (by kernel_rfl) (by kernel_rfl) (by kernel_rfl) (fun _ _ _ h => h) (Or.inl ⟨by kernel_rfl, ?_⟩) (by assumption) ?_
              rotate_left
              · (intro w hSw; (try dsimp only at hSw); go_simp); all_goals (with_reducible rfl)
              try simp only [Act.put, List.setIfInBounds_toArray, List.set_cons_zero, List.set_cons_succ]
              refine wpAnyH_ready (rs := [20]) (by kernel_rfl) (by simp) ?_
              refine (AllReadyH.cons (o := { dst := none, op := _, type := _, pos := _, after := _, guard := _ }) rfl (fun K hK => ?_) AllReadyH.nil)
              rw [if_pos (by kernel_rfl)]
              refine wp_store_row 41 _ _ (by rfl) _ #[.string ⟨t2.toArray⟩, .string ⟨t3.toArray⟩, .string ⟨t6.toArray⟩, .int .i64 n4, .int .i64 n5, .slice none 0 0] (by rfl) (by rfl) 41 bkZeroC (Xv9.out).at_ (by kernel_rfl) (by kernel_rfl) (by kernel_rfl) ?_
              refine hK.out _ _ trivial (fun _ => ?_)
              clear hK K
              try simp only [Act.put]
              refine wpAnyH_done (by kernel_rfl) ?_ _
              go_wp2_with fail
              go_meet
              case rel => exact ⟨_, rfl, Rv9.out.setRow _ Xv9.out.far, Xv9.out.set _⟩
          · rw [if_pos (by kernel_rfl)]
            go_wp2_with fail
            have Rv11 := Lib.hid (Rv3.out.later (below_alloc (Below.refl _ _) (Nat.le_refl _) (.cells bkZeroC 41)))
            have Xv11 := Lib.hid (BoxAt.new Rv3.out bkZeroC 41)
            refine hK.out _ (v3.alloc (.cells bkZeroC 41)) trivial (fun _ => ?_)
            generalize v3.alloc (.cells bkZeroC 41) = v11 at Rv11 Xv11 ⊢
            generalize v3.heap.size = gB at Xv11 ⊢
            clear Rv3
            clear hK K
            try simp only [Act.put, List.setIfInBounds_toArray, List.set_cons_zero, List.set_cons_succ]
            refine wpAnyH_ready (rs := [13]) (by kernel_rfl) (by simp) ?_
            refine (AllReadyH.cons (o := { dst := some 26, op := _, type := _, pos := _, after := _, guard := _ }) rfl (fun K hK => ?_) AllReadyH.nil)
            rw [if_pos (by kernel_rfl)]
            refine wp_call_go Tryz.func63 (by kernel_rfl) (by kernel_rfl) (by rfl) (C5.out _ Rv11.out) (by rfl) ?_
            rintro e v12 ⟨rfl, hfv12, hgv12⟩
            refine ⟨_, rfl, ?_⟩
            have Rv12 := Lib.hid (Rv11.out.next hfv12 hgv12)
            have Xv12 := Lib.hid (Xv11.out.next Rv11.out.hb hgv12)
            clear hfv12 hgv12 Rv11 C5 Xv11
            refine hK.out _ _ trivial (fun _ => ?_)
            clear hK K
            try simp only [Act.put, List.setIfInBounds_toArray, List.set_cons_zero, List.set_cons_succ]
            refine wpAnyH_ready (rs := [17]) (by kernel_rfl) (by simp) ?_
            refine (AllReadyH.cons (o := { dst := some 30, op := _, type := _, pos := _, after := _, guard := _ }) rfl (fun K hK => ?_) AllReadyH.nil)
            rw [if_pos (by kernel_rfl)]
            refine wp_call_go Tryz.func61 (by kernel_rfl) (by kernel_rfl) (by rfl) (C6.out _ Rv12.out) (by rfl) ?_
            rintro e v13 ⟨rfl, hfv13, hgv13⟩
            refine ⟨_, rfl, ?_⟩
            have Rv13 := Lib.hid (Rv12.out.next hfv13 hgv13)
            have Xv13 := Lib.hid (Xv12.out.next Rv12.out.hb hgv13)
            clear hfv13 hgv13 Rv12 C6 Xv12
            refine hK.out _ _ trivial (fun _ => ?_)
            clear hK K
            try simp only [Act.put, List.setIfInBounds_toArray, List.set_cons_zero, List.set_cons_succ]
            refine wpAnyH_take (i := 18) (oi := { dst := some 31, op := _, type := _, pos := _, after := _, guard := _ }) (v := ?_) rfl (by kernel_rfl) (by kernel_rfl) (by kernel_rfl) (fun _ _ _ h => h) (Or.inl ⟨by kernel_rfl, ?_⟩) (by assumption) ?_
            rotate_left
            · (intro w hSw; (try dsimp only at hSw); go_simp); all_goals (with_reducible rfl)
            try simp only [Act.put, List.setIfInBounds_toArray, List.set_cons_zero, List.set_cons_succ]
            refine wpAnyH_ready (rs := [20]) (by kernel_rfl) (by simp) ?_
            refine (AllReadyH.cons (o := { dst := none, op := _, type := _, pos := _, after := _, guard := _ }) rfl (fun K hK => ?_) AllReadyH.nil)
            rw [if_pos (by kernel_rfl)]
            refine wp_store_row 41 _ _ (by rfl) _ #[.string ⟨t2.toArray⟩, .string ⟨t3.toArray⟩, .string ⟨t6.toArray⟩, .int .i64 n4, .int .i64 n5, .slice none 0 0] (by rfl) (by rfl) 41 bkZeroC (Xv13.out).at_ (by kernel_rfl) (by kernel_rfl) (by kernel_rfl) ?_
            refine hK.out _ _ trivial (fun _ => ?_)
            clear hK K
            try simp only [Act.put]
            refine wpAnyH_done (by kernel_rfl) ?_ _
            go_wp2_with fail
            go_meet
            case rel => exact ⟨_, rfl, Rv13.out.setRow _ Xv13.out.far, Xv13.out.set _⟩
        · rw [if_pos (by kernel_rfl)]
          go_wp2_with fail
          have Rv15 := Lib.hid (Rv2.out.later (below_alloc (Below.refl _ _) (Nat.le_refl _) (.cells bkZeroC 41)))
          have Xv15 := Lib.hid (BoxAt.new Rv2.out bkZeroC 41)
          refine hK.out _ (v2.alloc (.cells bkZeroC 41)) trivial (fun _ => ?_)
          generalize v2.alloc (.cells bkZeroC 41) = v15 at Rv15 Xv15 ⊢
          generalize v2.heap.size = gB at Xv15 ⊢
          clear Rv2
          clear hK K
          try simp only [Act.put, List.setIfInBounds_toArray, List.set_cons_zero, List.set_cons_succ]
          refine wpAnyH_ready (rs := [9]) (by kernel_rfl) (by simp) ?_
          refine (AllReadyH.cons (o := { dst := some 22, op := _, type := _, pos := _, after := _, guard := _ }) rfl (fun K hK => ?_) AllReadyH.nil)
          rw [if_pos (by kernel_rfl)]
          refine wp_call_go Tryz.func62 (by kernel_rfl) (by kernel_rfl) (by rfl) (C4.out _ Rv15.out) (by rfl) ?_
          rintro e v16 ⟨rfl, hfv16, hgv16⟩
          refine ⟨_, rfl, ?_⟩
          have Rv16 := Lib.hid (Rv15.out.next hfv16 hgv16)
          have Xv16 := Lib.hid (Xv15.out.next Rv15.out.hb hgv16)
          clear hfv16 hgv16 Rv15 C4 Xv15
          refine hK.out _ _ trivial (fun _ => ?_)
          clear hK K
          try simp only [Act.put, List.setIfInBounds_toArray, List.set_cons_zero, List.set_cons_succ]
          refine wpAnyH_ready (rs := [13]) (by kernel_rfl) (by simp) ?_
          refine (AllReadyH.cons (o := { dst := some 26, op := _, type := _, pos := _, after := _, guard := _ }) rfl (fun K hK => ?_) AllReadyH.nil)
          rw [if_pos (by kernel_rfl)]
          refine wp_call_go Tryz.func63 (by kernel_rfl) (by kernel_rfl) (by rfl) (C5.out _ Rv16.out) (by rfl) ?_
          rintro e v17 ⟨rfl, hfv17, hgv17⟩
          refine ⟨_, rfl, ?_⟩
          have Rv17 := Lib.hid (Rv16.out.next hfv17 hgv17)
          have Xv17 := Lib.hid (Xv16.out.next Rv16.out.hb hgv17)
          clear hfv17 hgv17 Rv16 C5 Xv16
          refine hK.out _ _ trivial (fun _ => ?_)
          clear hK K
          try simp only [Act.put, List.setIfInBounds_toArray, List.set_cons_zero, List.set_cons_succ]
          refine wpAnyH_ready (rs := [17]) (by kernel_rfl) (by simp) ?_
          refine (AllReadyH.cons (o := { dst := some 30, op := _, type := _, pos := _, after := _, guard := _ }) rfl (fun K hK => ?_) AllReadyH.nil)
          rw [if_pos (by kernel_rfl)]
          refine wp_call_go Tryz.func61 (by kernel_rfl) (by kernel_rfl) (by rfl) (C6.out _ Rv17.out) (by rfl) ?_
          rintro e v18 ⟨rfl, hfv18, hgv18⟩
          refine ⟨_, rfl, ?_⟩
          have Rv18 := Lib.hid (Rv17.out.next hfv18 hgv18)
          have Xv18 := Lib.hid (Xv17.out.next Rv17.out.hb hgv18)
          clear hfv18 hgv18 Rv17 C6 Xv17
          refine hK.out _ _ trivial (fun _ => ?_)
          clear hK K
          try simp only [Act.put, List.setIfInBounds_toArray, List.set_cons_zero, List.set_cons_succ]
          refine wpAnyH_take (i := 18) (oi := { dst := some 31, op := _, type := _, pos := _, after := _, guard := _ }) (v := ?_) rfl (by kernel_rfl) (by kernel_rfl) (by kernel_rfl) (fun _ _ _ h => h) (Or.inl ⟨by kernel_rfl, ?_⟩) (by assumption) ?_
          rotate_left
          · (intro w hSw; (try dsimp only at hSw); go_simp); all_goals (with_reducible rfl)
          try simp only [Act.put, List.setIfInBounds_toArray, List.set_cons_zero, List.set_cons_succ]
          refine wpAnyH_ready (rs := [20]) (by kernel_rfl) (by simp) ?_
          refine (AllReadyH.cons (o := { dst := none, op := _, type := _, pos := _, after := _, guard := _ }) rfl (fun K hK => ?_) AllReadyH.nil)
          rw [if_pos (by kernel_rfl)]
          refine wp_store_row 41 _ _ (by rfl) _ #[.string ⟨t2.toArray⟩, .string ⟨t3.toArray⟩, .string ⟨t6.toArray⟩, .int .i64 n4, .int .i64 n5, .slice none 0 0] (by rfl) (by rfl) 41 bkZeroC (Xv18.out).at_ (by kernel_rfl) (by kernel_rfl) (by kernel_rfl) ?_
          refine hK.out _ _ trivial (fun _ => ?_)
          clear hK K
          try simp only [Act.put]
          refine wpAnyH_done (by kernel_rfl) ?_ _
          go_wp2_with fail
          go_meet
          case rel => exact ⟨_, rfl, Rv18.out.setRow _ Xv18.out.far, Xv18.out.set _⟩
      · rw [if_pos (by kernel_rfl)]
        go_wp2_with fail
        have Rv20 := Lib.hid (Rv1.out.later (below_alloc (Below.refl _ _) (Nat.le_refl _) (.cells bkZeroC 41)))
        have Xv20 := Lib.hid (BoxAt.new Rv1.out bkZeroC 41)
        refine hK.out _ (v1.alloc (.cells bkZeroC 41)) trivial (fun _ => ?_)
        generalize v1.alloc (.cells bkZeroC 41) = v20 at Rv20 Xv20 ⊢
        generalize v1.heap.size = gB at Xv20 ⊢
        clear Rv1
        clear hK K
        try simp only [Act.put, List.setIfInBounds_toArray, List.set_cons_zero, List.set_cons_succ]
        refine wpAnyH_ready (rs := [7]) (by kernel_rfl) (by simp) ?_
        refine (AllReadyH.cons (o := { dst := some 20, op := _, type := _, pos := _, after := _, guard := _ }) rfl (fun K hK => ?_) AllReadyH.nil)
        rw [if_pos (by kernel_rfl)]
        refine wp_call_go Tryz.func61 (by kernel_rfl) (by kernel_rfl) (by rfl) (C3.out _ Rv20.out) (by rfl) ?_
        rintro e v21 ⟨rfl, hfv21, hgv21⟩
        refine ⟨_, rfl, ?_⟩
        have Rv21 := Lib.hid (Rv20.out.next hfv21 hgv21)
        have Xv21 := Lib.hid (Xv20.out.next Rv20.out.hb hgv21)
        clear hfv21 hgv21 Rv20 C3 Xv20
        refine hK.out _ _ trivial (fun _ => ?_)
        clear hK K
        try simp only [Act.put, List.setIfInBounds_toArray, List.set_cons_zero, List.set_cons_succ]
        refine wpAnyH_ready (rs := [9]) (by kernel_rfl) (by simp) ?_
        refine (AllReadyH.cons (o := { dst := some 22, op := _, type := _, pos := _, after := _, guard := _ }) rfl (fun K hK => ?_) AllReadyH.nil)
        rw [if_pos (by kernel_rfl)]
        refine wp_call_go Tryz.func62 (by kernel_rfl) (by kernel_rfl) (by rfl) (C4.out _ Rv21.out) (by rfl) ?_
        rintro e v22 ⟨rfl, hfv22, hgv22⟩
        refine ⟨_, rfl, ?_⟩
        have Rv22 := Lib.hid (Rv21.out.next hfv22 hgv22)
        have Xv22 := Lib.hid (Xv21.out.next Rv21.out.hb hgv22)
        clear hfv22 hgv22 Rv21 C4 Xv21
        refine hK.out _ _ trivial (fun _ => ?_)
        clear hK K
        try simp only [Act.put, List.setIfInBounds_toArray, List.set_cons_zero, List.set_cons_succ]
        refine wpAnyH_ready (rs := [13]) (by kernel_rfl) (by simp) ?_
        refine (AllReadyH.cons (o := { dst := some 26, op := _, type := _, pos := _, after := _, guard := _ }) rfl (fun K hK => ?_) AllReadyH.nil)
        rw [if_pos (by kernel_rfl)]
        refine wp_call_go Tryz.func63 (by kernel_rfl) (by kernel_rfl) (by rfl) (C5.out _ Rv22.out) (by rfl) ?_
        rintro e v23 ⟨rfl, hfv23, hgv23⟩
        refine ⟨_, rfl, ?_⟩
        have Rv23 := Lib.hid (Rv22.out.next hfv23 hgv23)
        have Xv23 := Lib.hid (Xv22.out.next Rv22.out.hb hgv23)
        clear hfv23 hgv23 Rv22 C5 Xv22
        refine hK.out _ _ trivial (fun _ => ?_)
        clear hK K
        try simp only [Act.put, List.setIfInBounds_toArray, List.set_cons_zero, List.set_cons_succ]
        refine wpAnyH_ready (rs := [17]) (by kernel_rfl) (by simp) ?_
        refine (AllReadyH.cons (o := { dst := some 30, op := _, type := _, pos := _, after := _, guard := _ }) rfl (fun K hK => ?_) AllReadyH.nil)
        rw [if_pos (by kernel_rfl)]
        refine wp_call_go Tryz.func61 (by kernel_rfl) (by kernel_rfl) (by rfl) (C6.out _ Rv23.out) (by rfl) ?_
        rintro e v24 ⟨rfl, hfv24, hgv24⟩
        refine ⟨_, rfl, ?_⟩
        have Rv24 := Lib.hid (Rv23.out.next hfv24 hgv24)
        have Xv24 := Lib.hid (Xv23.out.next Rv23.out.hb hgv24)
        clear hfv24 hgv24 Rv23 C6 Xv23
        refine hK.out _ _ trivial (fun _ => ?_)
        clear hK K
        try simp only [Act.put, List.setIfInBounds_toArray, List.set_cons_zero, List.set_cons_succ]
        refine wpAnyH_take (i := 18) (oi := { dst := some 31, op := _, type := _, pos := _, after := _, guard := _ }) (v := ?_) rfl (by kernel_rfl) (by kernel_rfl) (by kernel_rfl) (fun _ _ _ h => h) (Or.inl ⟨by kernel_rfl, ?_⟩) (by assumption) ?_
        rotate_left
        · (intro w hSw; (try dsimp only at hSw); go_simp); all_goals (with_reducible rfl)
        try simp only [Act.put, List.setIfInBounds_toArray, List.set_cons_zero, List.set_cons_succ]
        refine wpAnyH_ready (rs := [20]) (by kernel_rfl) (by simp) ?_
        refine (AllReadyH.cons (o := { dst := none, op := _, type := _, pos := _, after := _, guard := _ }) rfl (fun K hK => ?_) AllReadyH.nil)
        rw [if_pos (by kernel_rfl)]
        refine wp_store_row 41 _ _ (by rfl) _ #[.string ⟨t2.toArray⟩, .string ⟨t3.toArray⟩, .string ⟨t6.toArray⟩, .int .i64 n4, .int .i64 n5, .slice none 0 0] (by rfl) (by rfl) 41 bkZeroC (Xv24.out).at_ (by kernel_rfl) (by kernel_rfl) (by kernel_rfl) ?_
        refine hK.out _ _ trivial (fun _ => ?_)
        clear hK K
        try simp only [Act.put]
        refine wpAnyH_done (by kernel_rfl) ?_ _
        go_wp2_with fail
        go_meet
        case rel => exact ⟨_, rfl, Rv24.out.setRow _ Xv24.out.far, Xv24.out.set _⟩
    · rw [if_pos (by kernel_rfl)]
      go_wp2_with fail
      have Rv26 := Lib.hid (Rw2.out.later (below_alloc (Below.refl _ _) (Nat.le_refl _) (.cells bkZeroC 41)))
      have Xv26 := Lib.hid (BoxAt.new Rw2.out bkZeroC 41)
      refine hK.out _ (w2.alloc (.cells bkZeroC 41)) trivial (fun _ => ?_)
      generalize w2.alloc (.cells bkZeroC 41) = v26 at Rv26 Xv26 ⊢
      generalize w2.heap.size = gB at Xv26 ⊢
      clear Rw2
      clear hK K
      try simp only [Act.put, List.setIfInBounds_toArray, List.set_cons_zero, List.set_cons_succ]
      refine wpAnyH_ready (rs := [3]) (by kernel_rfl) (by simp) ?_
      refine (AllReadyH.cons (o := { dst := some 16, op := _, type := _, pos := _, after := _, guard := _ }) rfl (fun K hK => ?_) AllReadyH.nil)
      rw [if_pos (by kernel_rfl)]
      refine wp_call_go Tryz.func60 (by kernel_rfl) (by kernel_rfl) (by rfl) (C2.out _ Rv26.out) (by rfl) ?_
      rintro e v27 ⟨rfl, hfv27, hgv27⟩
      refine ⟨_, rfl, ?_⟩
      have Rv27 := Lib.hid (Rv26.out.next hfv27 hgv27)
      have Xv27 := Lib.hid (Xv26.out.next Rv26.out.hb hgv27)
      clear hfv27 hgv27 Rv26 C2 Xv26
      refine hK.out _ _ trivial (fun _ => ?_)
      clear hK K
      try simp only [Act.put, List.setIfInBounds_toArray, List.set_cons_zero, List.set_cons_succ]
      refine wpAnyH_ready (rs := [7]) (by kernel_rfl) (by simp) ?_
      refine (AllReadyH.cons (o := { dst := some 20, op := _, type := _, pos := _, after := _, guard := _ }) rfl (fun K hK => ?_) AllReadyH.nil)
      rw [if_pos (by kernel_rfl)]
      refine wp_call_go Tryz.func61 (by kernel_rfl) (by kernel_rfl) (by rfl) (C3.out _ Rv27.out) (by rfl) ?_
      rintro e v28 ⟨rfl, hfv28, hgv28⟩
      refine ⟨_, rfl, ?_⟩
      have Rv28 := Lib.hid (Rv27.out.next hfv28 hgv28)
      have Xv28 := Lib.hid (Xv27.out.next Rv27.out.hb hgv28)
      clear hfv28 hgv28 Rv27 C3 Xv27
      refine hK.out _ _ trivial (fun _ => ?_)
      clear hK K
      try simp only [Act.put, List.setIfInBounds_toArray, List.set_cons_zero, List.set_cons_succ]
      refine wpAnyH_ready (rs := [9]) (by kernel_rfl) (by simp) ?_
      refine (AllReadyH.cons (o := { dst := some 22, op := _, type := _, pos := _, after := _, guard := _ }) rfl (fun K hK => ?_) AllReadyH.nil)
      rw [if_pos (by kernel_rfl)]
      refine wp_call_go Tryz.func62 (by kernel_rfl) (by kernel_rfl) (by rfl) (C4.out _ Rv28.out) (by rfl) ?_
      rintro e v29 ⟨rfl, hfv29, hgv29⟩
      refine ⟨_, rfl, ?_⟩
      have Rv29 := Lib.hid (Rv28.out.next hfv29 hgv29)
      have Xv29 := Lib.hid (Xv28.out.next Rv28.out.hb hgv29)
      clear hfv29 hgv29 Rv28 C4 Xv28
      refine hK.out _ _ trivial (fun _ => ?_)
      clear hK K
      try simp only [Act.put, List.setIfInBounds_toArray, List.set_cons_zero, List.set_cons_succ]
      refine wpAnyH_ready (rs := [13]) (by kernel_rfl) (by simp) ?_
      refine (AllReadyH.cons (o := { dst := some 26, op := _, type := _, pos := _, after := _, guard := _ }) rfl (fun K hK => ?_) AllReadyH.nil)
      rw [if_pos (by kernel_rfl)]
      refine wp_call_go Tryz.func63 (by kernel_rfl) (by kernel_rfl) (by rfl) (C5.out _ Rv29.out) (by rfl) ?_
      rintro e v30 ⟨rfl, hfv30, hgv30⟩
      refine ⟨_, rfl, ?_⟩
      have Rv30 := Lib.hid (Rv29.out.next hfv30 hgv30)
      have Xv30 := Lib.hid (Xv29.out.next Rv29.out.hb hgv30)
      clear hfv30 hgv30 Rv29 C5 Xv29
      refine hK.out _ _ trivial (fun _ => ?_)
      clear hK K
      try simp only [Act.put, List.setIfInBounds_toArray, List.set_cons_zero, List.set_cons_succ]
      refine wpAnyH_ready (rs := [17]) (by kernel_rfl) (by simp) ?_
      refine (AllReadyH.cons (o := { dst := some 30, op := _, type := _, pos := _, after := _, guard := _ }) rfl (fun K hK => ?_) AllReadyH.nil)
      rw [if_pos (by kernel_rfl)]
      refine wp_call_go Tryz.func61 (by kernel_rfl) (by kernel_rfl) (by rfl) (C6.out _ Rv30.out) (by rfl) ?_
      rintro e v31 ⟨rfl, hfv31, hgv31⟩
      refine ⟨_, rfl, ?_⟩
      have Rv31 := Lib.hid (Rv30.out.next hfv31 hgv31)
      have Xv31 := Lib.hid (Xv30.out.next Rv30.out.hb hgv31)
      clear hfv31 hgv31 Rv30 C6 Xv30
      refine hK.out _ _ trivial (fun _ => ?_)
      clear hK K
      try simp only [Act.put, List.setIfInBounds_toArray, List.set_cons_zero, List.set_cons_succ]
      refine wpAnyH_take (i := 18) (oi := { dst := some 31, op := _, type := _, pos := _, after := _, guard := _ }) (v := ?_) rfl (by kernel_rfl) (by kernel_rfl) (by kernel_rfl) (fun _ _ _ h => h) (Or.inl ⟨by kernel_rfl, ?_⟩) (by assumption) ?_
      rotate_left
      · (intro w hSw; (try dsimp only at hSw); go_simp); all_goals (with_reducible rfl)
      try simp only [Act.put, List.setIfInBounds_toArray, List.set_cons_zero, List.set_cons_succ]
      refine wpAnyH_ready (rs := [20]) (by kernel_rfl) (by simp) ?_
      refine (AllReadyH.cons (o := { dst := none, op := _, type := _, pos := _, after := _, guard := _ }) rfl (fun K hK => ?_) AllReadyH.nil)
      rw [if_pos (by kernel_rfl)]
      refine wp_store_row 41 _ _ (by rfl) _ #[.string ⟨t2.toArray⟩, .string ⟨t3.toArray⟩, .string ⟨t6.toArray⟩, .int .i64 n4, .int .i64 n5, .slice none 0 0] (by rfl) (by rfl) 41 bkZeroC (Xv31.out).at_ (by kernel_rfl) (by kernel_rfl) (by kernel_rfl) ?_
      refine hK.out _ _ trivial (fun _ => ?_)
      clear hK K
      try simp only [Act.put]
      refine wpAnyH_done (by kernel_rfl) ?_ _
      go_wp2_with fail
      go_meet
      case rel => exact ⟨_, rfl, Rv31.out.setRow _ Xv31.out.far, Xv31.out.set _⟩
  case rest =>
    obtain ⟨gB, rfl, hR, hX⟩ := hcut
    obtain ⟨wx, rfl⟩ : ∃ wx : World, wx = wc := ⟨_, rfl⟩
    have RX := Lib.hid hR
    have XX := Lib.hid hX
    clear hR hX
    obtain ⟨vb, hvb⟩ : ∃ v, bucketB t2 = v := ⟨_, rfl⟩
    rw [hvb] at HRES CB
    clear hvb C1 C2 C3 C4 C5 C6 R1
    obtain ⟨rs, bd⟩ := f6
    simp only at HRES L6
    go_upto_region 4 with (fail)
    go_cut [] (fun wx => RdAt w wx b ⟨rs, bd || !vb⟩ bkZeroC 41 ∧ BoxAt w wx gB #[.string ⟨t2.toArray⟩, .string ⟨t3.toArray⟩, .string ⟨t6.toArray⟩, .int .i64 n4, .int .i64 n5, .slice none 0 0] 41)
    case first =>
      cases bd with
      | true =>
        have q1 : wx.cell? ⟨b, 1, none⟩ = some (.bool true) := cell_of_heap RX.out.inf
        have q2 : wx.frozen? ⟨b, 1, none⟩ = false := free_of_heap RX.out.inf
        have q3 : wx.cell? ⟨gB, 0, none⟩ = some (.string ⟨t2.toArray⟩) := cell_of_heap XX.out.at_
        go_wp2_with fail
        go_meet
        case rel => exact ⟨RX.out.flag true, XX.out.flag RX.out true⟩
      | false =>
        have q1 : wx.cell? ⟨b, 1, none⟩ = some (.bool false) := cell_of_heap RX.out.inf
        have q2 : wx.frozen? ⟨b, 1, none⟩ = false := free_of_heap RX.out.inf
        have q3 : wx.cell? ⟨gB, 0, none⟩ = some (.string ⟨t2.toArray⟩) := cell_of_heap XX.out.at_
        go_wp2_with fail
        clear q1 q2 q3
        refine (CB.out _ (HG.out _ RX.out.below)).mono ?_
        rintro e w3 ⟨rfl, hb3⟩
        have R3 := Lib.hid (RX.out.later hb3)
        have X3 := Lib.hid (XX.out.later hb3)
        clear hb3 RX XX CB
        have q1 : w3.cell? ⟨b, 1, none⟩ = some (.bool false) := cell_of_heap R3.out.inf
        have q2 : w3.frozen? ⟨b, 1, none⟩ = false := free_of_heap R3.out.inf
        have q3 : w3.cell? ⟨gB, 0, none⟩ = some (.string ⟨t2.toArray⟩) := cell_of_heap X3.out.at_
        cases vb with
        | false =>
          go_wp2_with fail
          go_meet
          case rel => exact ⟨R3.out.flag true, X3.out.flag R3.out true⟩
        | true =>
          go_wp2_with fail
          go_meet
          case rel => exact ⟨R3.out.flag false, X3.out.flag R3.out false⟩
    case rest =>
      obtain ⟨hR, hX⟩ := hcut
      clear RX XX CB
      obtain ⟨wx, rfl⟩ : ∃ wx : World, wx = wc := ⟨_, rfl⟩
      have RX := Lib.hid hR
      have XX := Lib.hid hX
      clear hR hX
      obtain ⟨f7, hf7⟩ : ∃ f : Fs, (⟨rs, bd || !vb⟩ : Fs) = f := ⟨_, rfl⟩
      have l7 : f7.rest.length ≤ 140737488351232 := by rw [← hf7]; exact L6.out
      rw [hf7] at RX HRES
      clear hf7 L6
      have N8 := numberF_in (a := 0) (b := 10) (by decide) f7
      have l8 : (numberF 0 10 f7).2.rest.length ≤ 140737488351232 := Nat.le_trans (numberF_len 0 10 f7) l7
      have C8 := Lib.hid (number_field_any b 0 10 f7 wx (by unfold IntOK; omega) (by unfold IntOK; omega) RX.out.glob RX.out.big RX.out.inf l7)
      obtain ⟨⟨n8, f8⟩, hp8⟩ : ∃ p, numberF 0 10 f7 = p := ⟨_, rfl⟩
      rw [hp8] at C8 N8 l8
      simp only [hp8] at HRES
      simp only at C8 N8 l8
      clear hp8 l7
      have L8 := Lib.hid l8
      clear l8
      go_wp2_with fail
      refine (C8.out).mono ?_
      rintro e w9 ⟨rfl, hf9, hg9⟩
      have R9 := Lib.hid (RX.out.next hf9 hg9)
      have X9 := Lib.hid (XX.out.next RX.out.hb hg9)
      clear hf9 hg9 RX XX C8
      obtain ⟨N, rfl⟩ := Int.eq_ofNat_of_zero_le N8.1
      have hN10 : N ≤ 10 := by omega
      clear N8
      simp only [Int.toNat_natCast] at HRES
      obtain ⟨i0, hi, hz0, hz1, hz2⟩ := info_rule
      go_wp2
      go_loopg [51] N (fun gg s51 wr => ∃ (i : Nat) (v : Value), i ≤ N ∧ N - i ≤ gg ∧ s51 = .int .i64 i ∧ Hid (RowsAt w wr b gB (rulesF i f8).2 #[.string ⟨t2.toArray⟩, .string ⟨t3.toArray⟩, .string ⟨t6.toArray⟩, .int .i64 n4, .int .i64 n5, v] bkZeroC 41 104 6 v (rlRows (rulesF i f8).1)))
      case atStart => exact ⟨0, .slice none 0 0, by omega, by omega, rfl, ⟨R9.out, X9.out, World.ownsRow_nil _ _ _ _⟩⟩
      case round =>
        obtain ⟨i, v, hiN, hgg, rfl, Kwr⟩ := hrel
        clear R9 X9
        obtain ⟨⟨l, f⟩, hP⟩ : ∃ p, rulesF i f8 = p := ⟨_, rfl⟩
        have hlen : l.length = i := by have := rulesF_size i f8; rw [hP] at this; exact this
        have hfl : f.rest.length ≤ 140737488351232 := by have := rulesF_len i f8; rw [hP] at this; exact Nat.le_trans this L8.out
        rw [hP] at Kwr
        simp only at Kwr
        by_cases hlt : i < N
        · have hltz : (i : Int) < (N : Int) := by omega
          have HP := Lib.hid hP
          have HRF : Hid (ruleF f = (⟨(rl1 f).1, (rl2 f).1, (rl3 f).1, (rl4 f).1, (rl5 f).1, (rl6 f).1⟩, (rl6 f).2)) := rfl
          have k1 : (rl1 f).2.rest.length ≤ 140737488351232 := by unfold rl1; exact Nat.le_trans (shortF_len 100 f).2 hfl
          have k2 : (rl2 f).2.rest.length ≤ 140737488351232 := by unfold rl2; exact Nat.le_trans (shortF_len 100 (rl1 f).2).2 k1
          have k3 : (rl3 f).2.rest.length ≤ 140737488351232 := by unfold rl3; exact Nat.le_trans (flagF_len (rl2 f).2) k2
          have k4 : (rl4 f).2.rest.length ≤ 140737488351232 := by unfold rl4; exact Nat.le_trans (numberF_len 0 36500 (rl3 f).2) k3
          have k5 : (rl5 f).2.rest.length ≤ 140737488351232 := by unfold rl5; exact Nat.le_trans (numberF_len 0 36500 (rl4 f).2) k4
          have S1 : Hid (∀ W, RdAt w W b f bkZeroC 41 → Calls Tryz.prog 61 #[.pointer (some ⟨b, 0, none⟩), .int .i64 100] W (TextOut b (rl1 f).1 (rl1 f).2 W)) := fun W h => short_any b 100 f W (by unfold IntOK; omega) h.glob h.inf hfl
          have S2 : Hid (∀ W, RdAt w W b (rl1 f).2 bkZeroC 41 → Calls Tryz.prog 61 #[.pointer (some ⟨b, 0, none⟩), .int .i64 100] W (TextOut b (rl2 f).1 (rl2 f).2 W)) := fun W h => short_any b 100 (rl1 f).2 W (by unfold IntOK; omega) h.glob h.inf k1
          have S3 : Hid (∀ W, RdAt w W b (rl2 f).2 bkZeroC 41 → Calls Tryz.prog 64 #[.pointer (some ⟨b, 0, none⟩)] W (BoolOut b (rl3 f).1 (rl3 f).2 W)) := fun W h => flag_any b (rl2 f).2 W h.glob h.big h.inf k2
          have S4 : Hid (∀ W, RdAt w W b (rl3 f).2 bkZeroC 41 → Calls Tryz.prog 63 #[.pointer (some ⟨b, 0, none⟩), .int .i64 0, .int .i64 36500] W (NumOut b (rl4 f).1 (rl4 f).2 W)) := fun W h => number_field_any b 0 36500 (rl3 f).2 W (by unfold IntOK; omega) (by unfold IntOK; omega) h.glob h.big h.inf k3
          have S5 : Hid (∀ W, RdAt w W b (rl4 f).2 bkZeroC 41 → Calls Tryz.prog 63 #[.pointer (some ⟨b, 0, none⟩), .int .i64 0, .int .i64 36500] W (NumOut b (rl5 f).1 (rl5 f).2 W)) := fun W h => number_field_any b 0 36500 (rl4 f).2 W (by unfold IntOK; omega) (by unfold IntOK; omega) h.glob h.big h.inf k4
          have S6 : Hid (∀ W, RdAt w W b (rl5 f).2 bkZeroC 41 → Calls Tryz.prog 63 #[.pointer (some ⟨b, 0, none⟩), .int .i64 0, .int .i64 36500] W (NumOut b (rl6 f).1 (rl6 f).2 W)) := fun W h => number_field_any b 0 36500 (rl5 f).2 W (by unfold IntOK; omega) (by unfold IntOK; omega) h.glob h.big h.inf k5
          clear k1 k2 k3 k4 k5
          generalize rl1 f = y1 at *
          generalize rl2 f = y2 at *
          generalize rl3 f = y3 at *
          generalize rl4 f = y4 at *
          generalize rl5 f = y5 at *
          generalize rl6 f = y6 at *
          obtain ⟨a1, g1⟩ := y1
          obtain ⟨a2, g2⟩ := y2
          obtain ⟨a3, g3⟩ := y3
          obtain ⟨a4, g4⟩ := y4
          obtain ⟨a5, g5⟩ := y5
          obtain ⟨a6, g6⟩ := y6
          simp only at S1 S2 S3 S4 S5 S6 HRF
          obtain ⟨rows, hrows⟩ : ∃ rs, rlRows l = rs := ⟨_, rfl⟩
          have hrl : rows.length = i := by rw [← hrows, rlRows_len, hlen]
          rw [hrows] at Kwr
          have HROWS := Lib.hid hrows
          clear hP hfl hrows
          go_wp2_with fail
          refine wp_region_held_drew (S := (fun _ => True)) (by kernel_rfl) trivial (fun hS0 => ?_)
          have Kw0 := Lib.hid (Kwr.out.later (Below.refl _ _).drew)
          generalize wr.drew = w0 at Kw0 ⊢
          clear Kwr
          refine wpAnyH_take (i := 0) (oi := { dst := some 53, op := _, type := _, pos := _, after := _, guard := _ }) (v := ?_) rfl (by kernel_rfl) (by kernel_rfl) (by kernel_rfl) (fun _ _ _ h => h) (Or.inl ⟨by kernel_rfl, ?_⟩) (by assumption) ?_
          rotate_left
          · (intro w hSw; (try dsimp only at hSw); go_simp); all_goals (with_reducible rfl)
          try simp only [Act.put, List.setIfInBounds_toArray, List.set_cons_zero, List.set_cons_succ]
          refine wpAnyH_take (i := 2) (oi := { dst := some 55, op := _, type := _, pos := _, after := _, guard := _ }) (v := ?_) rfl (by kernel_rfl) (by kernel_rfl) (by kernel_rfl) (fun _ _ _ h => h) (Or.inl ⟨by kernel_rfl, ?_⟩) (by assumption) ?_
          rotate_left
          · (intro w hSw; (try dsimp only at hSw); go_simp); all_goals (with_reducible rfl)
          try simp only [Act.put, List.setIfInBounds_toArray, List.set_cons_zero, List.set_cons_succ]
          refine wpAnyH_take (i := 3) (oi := { dst := some 56, op := _, type := _, pos := _, after := _, guard := _ }) (v := ?_) rfl (by kernel_rfl) (by kernel_rfl) (by kernel_rfl) (fun _ _ _ h => h) (Or.inl ⟨by kernel_rfl, ?_⟩) (by assumption) ?_
          rotate_left
          · (intro w hSw; (try dsimp only at hSw); go_simp); all_goals (with_reducible rfl)
          try simp only [Act.put, List.setIfInBounds_toArray, List.set_cons_zero, List.set_cons_succ]
          refine wpAnyH_take (i := 4) (oi := { dst := some 57, op := _, type := _, pos := _, after := _, guard := _ }) (v := ?_) rfl (by kernel_rfl) (by kernel_rfl) (by kernel_rfl) (fun _ _ _ h => h) (Or.inl ⟨by kernel_rfl, ?_⟩) (by assumption) ?_
          rotate_left
          · (intro w hSw; (try dsimp only at hSw); go_simp); all_goals (with_reducible rfl)
          try simp only [Act.put, List.setIfInBounds_toArray, List.set_cons_zero, List.set_cons_succ]
          refine wpAnyH_take (i := 6) (oi := { dst := some 59, op := _, type := _, pos := _, after := _, guard := _ }) (v := ?_) rfl (by kernel_rfl) (by kernel_rfl) (by kernel_rfl) (fun _ _ _ h => h) (Or.inl ⟨by kernel_rfl, ?_⟩) (by assumption) ?_
          rotate_left
          · (intro w hSw; (try dsimp only at hSw); go_simp); all_goals (with_reducible rfl)
          try simp only [Act.put, List.setIfInBounds_toArray, List.set_cons_zero, List.set_cons_succ]
          refine wpAnyH_take (i := 7) (oi := { dst := some 60, op := _, type := _, pos := _, after := _, guard := _ }) (v := ?_) rfl (by kernel_rfl) (by kernel_rfl) (by kernel_rfl) (fun _ _ _ h => h) (Or.inl ⟨by kernel_rfl, ?_⟩) (by assumption) ?_
          rotate_left
          · (intro w hSw; (try dsimp only at hSw); go_simp); all_goals (with_reducible rfl)
          try simp only [Act.put, List.setIfInBounds_toArray, List.set_cons_zero, List.set_cons_succ]
          refine wpAnyH_take (i := 8) (oi := { dst := some 61, op := _, type := _, pos := _, after := _, guard := _ }) (v := ?_) rfl (by kernel_rfl) (by kernel_rfl) (by kernel_rfl) (fun _ _ _ h => h) (Or.inl ⟨by kernel_rfl, ?_⟩) (by assumption) ?_
          rotate_left
          · (intro w hSw; (try dsimp only at hSw); go_simp); all_goals (with_reducible rfl)
          try simp only [Act.put, List.setIfInBounds_toArray, List.set_cons_zero, List.set_cons_succ]
          refine wpAnyH_take (i := 10) (oi := { dst := some 63, op := _, type := _, pos := _, after := _, guard := _ }) (v := ?_) rfl (by kernel_rfl) (by kernel_rfl) (by kernel_rfl) (fun _ _ _ h => h) (Or.inl ⟨by kernel_rfl, ?_⟩) (by assumption) ?_
          rotate_left
          · (intro w hSw; (try dsimp only at hSw); go_simp); all_goals (with_reducible rfl)
          try simp only [Act.put, List.setIfInBounds_toArray, List.set_cons_zero, List.set_cons_succ]
          refine wpAnyH_take (i := 11) (oi := { dst := some 64, op := _, type := _, pos := _, after := _, guard := _ }) (v := ?_) rfl (by kernel_rfl) (by kernel_rfl) (by kernel_rfl) (fun _ _ _ h => h) (Or.inl ⟨by kernel_rfl, ?_⟩) (by assumption) ?_
          rotate_left
          · (intro w hSw; (try dsimp only at hSw); go_simp); all_goals (with_reducible rfl)
          try simp only [Act.put, List.setIfInBounds_toArray, List.set_cons_zero, List.set_cons_succ]
          refine wpAnyH_take (i := 12) (oi := { dst := some 65, op := _, type := _, pos := _, after := _, guard := _ }) (v := ?_) rfl (by kernel_rfl) (by kernel_rfl) (by kernel_rfl) (fun _ _ _ h => h) (Or.inl ⟨by kernel_rfl, ?_⟩) (by assumption) ?_
          rotate_left
          · (intro w hSw; (try dsimp only at hSw); go_simp); all_goals (with_reducible rfl)
          try simp only [Act.put, List.setIfInBounds_toArray, List.set_cons_zero, List.set_cons_succ]
          refine wpAnyH_take (i := 14) (oi := { dst := some 67, op := _, type := _, pos := _, after := _, guard := _ }) (v := ?_) rfl (by kernel_rfl) (by kernel_rfl) (by kernel_rfl) (fun _ _ _ h => h) (Or.inl ⟨by kernel_rfl, ?_⟩) (by assumption) ?_
          rotate_left
          · (intro w hSw; (try dsimp only at hSw); go_simp); all_goals (with_reducible rfl)
          try simp only [Act.put, List.setIfInBounds_toArray, List.set_cons_zero, List.set_cons_succ]
          refine wpAnyH_take (i := 15) (oi := { dst := some 68, op := _, type := _, pos := _, after := _, guard := _ }) (v := ?_) rfl (by kernel_rfl) (by kernel_rfl) (by kernel_rfl) (fun _ _ _ h => h) (Or.inl ⟨by kernel_rfl, ?_⟩) (by assumption) ?_
          rotate_left
          · (intro w hSw; (try dsimp only at hSw); go_simp); all_goals (with_reducible rfl)
          try simp only [Act.put, List.setIfInBounds_toArray, List.set_cons_zero, List.set_cons_succ]
          refine wpAnyH_take (i := 16) (oi := { dst := some 69, op := _, type := _, pos := _, after := _, guard := _ }) (v := ?_) rfl (by kernel_rfl) (by kernel_rfl) (by kernel_rfl) (fun _ _ _ h => h) (Or.inl ⟨by kernel_rfl, ?_⟩) (by assumption) ?_
          rotate_left
          · (intro w hSw; (try dsimp only at hSw); go_simp); all_goals (with_reducible rfl)
          try simp only [Act.put, List.setIfInBounds_toArray, List.set_cons_zero, List.set_cons_succ]
          refine wpAnyH_take (i := 18) (oi := { dst := some 71, op := _, type := _, pos := _, after := _, guard := _ }) (v := ?_) rfl (by kernel_rfl) (by kernel_rfl) (by kernel_rfl) (fun _ _ _ h => h) (Or.inl ⟨by kernel_rfl, ?_⟩) (by assumption) ?_
          rotate_left
          · (intro w hSw; (try dsimp only at hSw); go_simp); all_goals (with_reducible rfl)
          try simp only [Act.put, List.setIfInBounds_toArray, List.set_cons_zero, List.set_cons_succ]
          refine wpAnyH_take (i := 19) (oi := { dst := some 72, op := _, type := _, pos := _, after := _, guard := _ }) (v := ?_) rfl (by kernel_rfl) (by kernel_rfl) (by kernel_rfl) (fun _ _ _ h => h) (Or.inl ⟨by kernel_rfl, ?_⟩) (by assumption) ?_
          rotate_left
          · (intro w hSw; (try dsimp only at hSw); go_simp); all_goals (with_reducible rfl)
          try simp only [Act.put, List.setIfInBounds_toArray, List.set_cons_zero, List.set_cons_succ]
          refine wpAnyH_take (i := 20) (oi := { dst := some 73, op := _, type := _, pos := _, after := _, guard := _ }) (v := ?_) rfl (by kernel_rfl) (by kernel_rfl) (by kernel_rfl) (fun _ _ _ h => h) (Or.inl ⟨by kernel_rfl, ?_⟩) (by assumption) ?_
          rotate_left
          · (intro w hSw; (try dsimp only at hSw); go_simp); all_goals (with_reducible rfl)
          try simp only [Act.put, List.setIfInBounds_toArray, List.set_cons_zero, List.set_cons_succ]
          refine wpAnyH_take (i := 22) (oi := { dst := some 75, op := _, type := _, pos := _, after := _, guard := _ }) (v := ?_) rfl (by kernel_rfl) (by kernel_rfl) (by kernel_rfl) (fun _ _ _ h => h) (Or.inl ⟨by kernel_rfl, ?_⟩) (by assumption) ?_
          rotate_left
          · (intro w hSw; (try dsimp only at hSw); go_simp); all_goals (with_reducible rfl)
          try simp only [Act.put, List.setIfInBounds_toArray, List.set_cons_zero, List.set_cons_succ]
          refine wpAnyH_take (i := 23) (oi := { dst := some 76, op := _, type := _, pos := _, after := _, guard := _ }) (v := ?_) rfl (by kernel_rfl) (by kernel_rfl) (by kernel_rfl) (fun _ _ _ h => h) (Or.inl ⟨by kernel_rfl, ?_⟩) (by assumption) ?_
          rotate_left
          · (intro w hSw; (try dsimp only at hSw); go_simp); all_goals (with_reducible rfl)
          try simp only [Act.put, List.setIfInBounds_toArray, List.set_cons_zero, List.set_cons_succ]
          refine wpAnyH_take (i := 24) (oi := { dst := some 77, op := _, type := _, pos := _, after := _, guard := _ }) (v := ?_) rfl (by kernel_rfl) (by kernel_rfl) (by kernel_rfl) (fun _ _ _ h => h) (Or.inl ⟨by kernel_rfl, ?_⟩) (by assumption) ?_
          rotate_left
          · (intro w hSw; (try dsimp only at hSw); go_simp); all_goals (with_reducible rfl)
          try simp only [Act.put, List.setIfInBounds_toArray, List.set_cons_zero, List.set_cons_succ]
          refine wpAnyH_ready (rs := [1, 5]) (by kernel_rfl) (by simp) ?_
          refine (AllReadyH.cons (o := { dst := some 54, op := _, type := _, pos := _, after := _, guard := _ }) rfl (fun K hK => ?_) (AllReadyH.cons (o := { dst := some 58, op := _, type := _, pos := _, after := _, guard := _ }) rfl (fun K hK => ?_) AllReadyH.nil))
          · rw [if_pos (by kernel_rfl)]
            have c5 : w0.cell? ⟨gB, 5, none⟩ = some v := cell_of_heap Kw0.out.box.at_
            go_wp2_with fail
            clear c5
            refine hK.out _ _ trivial (fun _ => ?_)
            clear hK K
            try simp only [Act.put, List.setIfInBounds_toArray, List.set_cons_zero, List.set_cons_succ]
            refine wpAnyH_ready (rs := [5]) (by kernel_rfl) (by simp) ?_
            refine (AllReadyH.cons (o := { dst := some 58, op := _, type := _, pos := _, after := _, guard := _ }) rfl (fun K hK => ?_) AllReadyH.nil)
            rw [if_pos (by kernel_rfl)]
            refine wp_call_go Tryz.func61 (by kernel_rfl) (by kernel_rfl) (by rfl) (S1.out _ Kw0.out.rd) (by rfl) ?_
            rintro e z2 ⟨rfl, hf, hg⟩
            refine ⟨_, rfl, ?_⟩
            have Kz2 := Lib.hid (Kw0.out.next hf hg)
            clear hf hg Kw0 S1
            refine hK.out _ _ trivial (fun _ => ?_)
            clear hK K
            try simp only [Act.put, List.setIfInBounds_toArray, List.set_cons_zero, List.set_cons_succ]
            refine wpAnyH_ready (rs := [9]) (by kernel_rfl) (by simp) ?_
            refine (AllReadyH.cons (o := { dst := some 62, op := _, type := _, pos := _, after := _, guard := _ }) rfl (fun K hK => ?_) AllReadyH.nil)
            rw [if_pos (by kernel_rfl)]
            refine wp_call_go Tryz.func61 (by kernel_rfl) (by kernel_rfl) (by rfl) (S2.out _ Kz2.out.rd) (by rfl) ?_
            rintro e z3 ⟨rfl, hf, hg⟩
            refine ⟨_, rfl, ?_⟩
            have Kz3 := Lib.hid (Kz2.out.next hf hg)
            clear hf hg Kz2 S2
            refine hK.out _ _ trivial (fun _ => ?_)
            clear hK K
            try simp only [Act.put, List.setIfInBounds_toArray, List.set_cons_zero, List.set_cons_succ]
            refine wpAnyH_ready (rs := [13]) (by kernel_rfl) (by simp) ?_
            refine (AllReadyH.cons (o := { dst := some 66, op := _, type := _, pos := _, after := _, guard := _ }) rfl (fun K hK => ?_) AllReadyH.nil)
            rw [if_pos (by kernel_rfl)]
            refine wp_call_go Tryz.func64 (by kernel_rfl) (by kernel_rfl) (by rfl) (S3.out _ Kz3.out.rd) (by rfl) ?_
            rintro e z4 ⟨rfl, hf, hg⟩
            refine ⟨_, rfl, ?_⟩
            have Kz4 := Lib.hid (Kz3.out.next hf hg)
            clear hf hg Kz3 S3
            refine hK.out _ _ trivial (fun _ => ?_)
            clear hK K
            try simp only [Act.put, List.setIfInBounds_toArray, List.set_cons_zero, List.set_cons_succ]
            refine wpAnyH_ready (rs := [17]) (by kernel_rfl) (by simp) ?_
            refine (AllReadyH.cons (o := { dst := some 70, op := _, type := _, pos := _, after := _, guard := _ }) rfl (fun K hK => ?_) AllReadyH.nil)
            rw [if_pos (by kernel_rfl)]
            refine wp_call_go Tryz.func63 (by kernel_rfl) (by kernel_rfl) (by rfl) (S4.out _ Kz4.out.rd) (by rfl) ?_
            rintro e z5 ⟨rfl, hf, hg⟩
            refine ⟨_, rfl, ?_⟩
            have Kz5 := Lib.hid (Kz4.out.next hf hg)
            clear hf hg Kz4 S4
            refine hK.out _ _ trivial (fun _ => ?_)
            clear hK K
            try simp only [Act.put, List.setIfInBounds_toArray, List.set_cons_zero, List.set_cons_succ]
            refine wpAnyH_ready (rs := [21]) (by kernel_rfl) (by simp) ?_
            refine (AllReadyH.cons (o := { dst := some 74, op := _, type := _, pos := _, after := _, guard := _ }) rfl (fun K hK => ?_) AllReadyH.nil)
            rw [if_pos (by kernel_rfl)]
            refine wp_call_go Tryz.func63 (by kernel_rfl) (by kernel_rfl) (by rfl) (S5.out _ Kz5.out.rd) (by rfl) ?_
            rintro e z6 ⟨rfl, hf, hg⟩
            refine ⟨_, rfl, ?_⟩
            have Kz6 := Lib.hid (Kz5.out.next hf hg)
            clear hf hg Kz5 S5
            refine hK.out _ _ trivial (fun _ => ?_)
            clear hK K
            try simp only [Act.put, List.setIfInBounds_toArray, List.set_cons_zero, List.set_cons_succ]
            refine wpAnyH_ready (rs := [25]) (by kernel_rfl) (by simp) ?_
            refine (AllReadyH.cons (o := { dst := some 78, op := _, type := _, pos := _, after := _, guard := _ }) rfl (fun K hK => ?_) AllReadyH.nil)
            rw [if_pos (by kernel_rfl)]
            refine wp_call_go Tryz.func63 (by kernel_rfl) (by kernel_rfl) (by rfl) (S6.out _ Kz6.out.rd) (by rfl) ?_
            rintro e z7 ⟨rfl, hf, hg⟩
            refine ⟨_, rfl, ?_⟩
            have Kz7 := Lib.hid (Kz6.out.next hf hg)
            clear hf hg Kz6 S6
            refine hK.out _ _ trivial (fun _ => ?_)
            clear hK K
            try simp only [Act.put, List.setIfInBounds_toArray, List.set_cons_zero, List.set_cons_succ]
            refine wpAnyH_take (i := 26) (oi := { dst := some 79, op := _, type := _, pos := _, after := _, guard := _ }) (v := ?_) rfl (by kernel_rfl) (by kernel_rfl) (by kernel_rfl) (fun _ _ _ h => h) (Or.inl ⟨by kernel_rfl, ?_⟩) (by assumption) ?_
            rotate_left
            · (intro w hSw; (try dsimp only at hSw); go_simp); all_goals (with_reducible rfl)
            try simp only [Act.put, List.setIfInBounds_toArray, List.set_cons_zero, List.set_cons_succ]
            refine wpAnyH_ready (rs := [27]) (by kernel_rfl) (by simp) ?_
            refine (AllReadyH.cons (o := { dst := some 80, op := _, type := _, pos := _, after := _, guard := _ }) rfl (fun K hK => ?_) AllReadyH.nil)
            rw [if_pos (by kernel_rfl)]
            go_wp2_with fail
            have Kz8 := Lib.hid (Kz7.out.later (below_alloc (Below.refl _ _) (Nat.le_refl _) (.cells #[.string ⟨a1.toArray⟩, .string ⟨a2.toArray⟩, .bool a3, .int .i64 a4, .int .i64 a5, .int .i64 a6] 104)))
            have HBz8 := Lib.hid (heap_alloc_new z7 (.cells #[.string ⟨a1.toArray⟩, .string ⟨a2.toArray⟩, .bool a3, .int .i64 a4, .int .i64 a5, .int .i64 a6] 104))
            refine hK.out _ (z7.alloc (.cells #[.string ⟨a1.toArray⟩, .string ⟨a2.toArray⟩, .bool a3, .int .i64 a4, .int .i64 a5, .int .i64 a6] 104)) trivial (fun _ => ?_)
            generalize z7.alloc (.cells #[.string ⟨a1.toArray⟩, .string ⟨a2.toArray⟩, .bool a3, .int .i64 a4, .int .i64 a5, .int .i64 a6] 104) = z8 at Kz8 HBz8 ⊢
            generalize z7.heap.size = gA at HBz8 ⊢
            clear Kz7
            clear hK K
            try simp only [Act.put, List.setIfInBounds_toArray, List.set_cons_zero, List.set_cons_succ]
            refine wpAnyH_ready (rs := [28]) (by kernel_rfl) (by simp) ?_
            refine (AllReadyH.cons (o := { dst := some 81, op := _, type := _, pos := _, after := _, guard := _ }) rfl (fun K hK => ?_) AllReadyH.nil)
            rw [if_pos (by kernel_rfl)]
            refine wp_append_lies _ _ _ _ (by rfl) (gB + 1) 104 i0 _ 6 64 Tryz.underlying39 hi hz0 hz1 hz2 rfl (by decide) v rows.length rows.flatten (by rfl) Kz8.out.own ⟨gA, 0, none⟩ 1 1 [.string ⟨a1.toArray⟩, .string ⟨a2.toArray⟩, .bool a3, .int .i64 a4, .int .i64 a5, .int .i64 a6] (by rfl) (by rfl) (fun j u hj => by rw [Addr.add_lit, cell_of_heap HBz8.out]; simpa using hj) (by simp [Value.oneCell']) (by decide) (by simp only [maxLen]; omega) (by omega) (by have := Kz8.out.box.lt; omega) _ rfl ?_
            intro g cap z9 hown hgr hat hlt3
            have KP := Lib.hid (Kz8.out.pushRow (new := #[.string ⟨t2.toArray⟩, .string ⟨t3.toArray⟩, .string ⟨t6.toArray⟩, .int .i64 n4, .int .i64 n5, .slice (some ⟨g, 0, none⟩) (rows.length + 1) cap]) hown hgr)
            have XA := Lib.hid (Kz8.out.box.grown hgr Kz8.out.notB)
            clear hown hgr hat hlt3
            refine hK.out _ _ trivial (fun _ => ?_)
            clear hK K
            try simp only [Act.put, List.setIfInBounds_toArray, List.set_cons_zero, List.set_cons_succ]
            refine wpAnyH_take (i := 29) (oi := { dst := some 82, op := _, type := _, pos := _, after := _, guard := _ }) (v := ?_) rfl (by kernel_rfl) (by kernel_rfl) (by kernel_rfl) (fun _ _ _ h => h) (Or.inl ⟨by kernel_rfl, ?_⟩) (by assumption) ?_
            rotate_left
            · (intro w hSw; (try dsimp only at hSw); go_simp); all_goals (with_reducible rfl)
            try simp only [Act.put, List.setIfInBounds_toArray, List.set_cons_zero, List.set_cons_succ]
            refine wpAnyH_ready (rs := [30]) (by kernel_rfl) (by simp) ?_
            refine (AllReadyH.cons (o := { dst := none, op := _, type := _, pos := _, after := _, guard := _ }) rfl (fun K hK => ?_) AllReadyH.nil)
            rw [if_pos (by kernel_rfl)]
            refine wp_store_cell 39 _ _ (by rfl) gB 5 (.slice (some ⟨g, 0, none⟩) (rows.length + 1) cap) (by rfl) (by rfl) (by rfl) _ 41 XA.out.at_ (by simp) (by kernel_rfl) ?_
            refine hK.out _ (z9.setRow gB #[.string ⟨t2.toArray⟩, .string ⟨t3.toArray⟩, .string ⟨t6.toArray⟩, .int .i64 n4, .int .i64 n5, .slice (some ⟨g, 0, none⟩) (rows.length + 1) cap]) trivial (fun _ => ?_)
            clear hK K
            try simp only [Act.put]
            refine wpAnyH_done (by kernel_rfl) ?_ _
            go_wp2
            go_roundg (N - (i + 1))
            case measure => omega
            case rel =>
              refine ⟨i + 1, .slice (some ⟨g, 0, none⟩) (i + 1) cap, by omega, Nat.le_refl _, by go_num, ?_⟩
              have e1 : rulesF (i + 1) f8 = (l ++ [⟨a1, a2, a3, a4, a5, a6⟩], g6) := by rw [rulesF_snoc, HP.out]; simp only; rw [HRF.out]
              have e2 : rlRows (l ++ [⟨a1, a2, a3, a4, a5, a6⟩]) = rows ++ [[.string ⟨a1.toArray⟩, .string ⟨a2.toArray⟩, .bool a3, .int .i64 a4, .int .i64 a5, .int .i64 a6]] := by rw [← HROWS.out]; simp [rlRows, RlV.cells]
              rw [e1]
              simp only
              rw [e2]
              have h4 := KP.out
              rw [hrl] at h4
              exact h4
          · rw [if_pos (by kernel_rfl)]
            refine wp_call_go Tryz.func61 (by kernel_rfl) (by kernel_rfl) (by rfl) (S1.out _ Kw0.out.rd) (by rfl) ?_
            rintro e z11 ⟨rfl, hf, hg⟩
            refine ⟨_, rfl, ?_⟩
            have Kz11 := Lib.hid (Kw0.out.next hf hg)
            clear hf hg Kw0 S1
            refine hK.out _ _ trivial (fun _ => ?_)
            clear hK K
            try simp only [Act.put, List.setIfInBounds_toArray, List.set_cons_zero, List.set_cons_succ]
            refine wpAnyH_ready (rs := [1, 9]) (by kernel_rfl) (by simp) ?_
            refine (AllReadyH.cons (o := { dst := some 54, op := _, type := _, pos := _, after := _, guard := _ }) rfl (fun K hK => ?_) (AllReadyH.cons (o := { dst := some 62, op := _, type := _, pos := _, after := _, guard := _ }) rfl (fun K hK => ?_) AllReadyH.nil))
            · rw [if_pos (by kernel_rfl)]
              have c5 : z11.cell? ⟨gB, 5, none⟩ = some v := cell_of_heap Kz11.out.box.at_
              go_wp2_with fail
              clear c5
              refine hK.out _ _ trivial (fun _ => ?_)
              clear hK K
              try simp only [Act.put, List.setIfInBounds_toArray, List.set_cons_zero, List.set_cons_succ]
              refine wpAnyH_ready (rs := [9]) (by kernel_rfl) (by simp) ?_
              refine (AllReadyH.cons (o := { dst := some 62, op := _, type := _, pos := _, after := _, guard := _ }) rfl (fun K hK => ?_) AllReadyH.nil)
              rw [if_pos (by kernel_rfl)]
              refine wp_call_go Tryz.func61 (by kernel_rfl) (by kernel_rfl) (by rfl) (S2.out _ Kz11.out.rd) (by rfl) ?_
              rintro e z13 ⟨rfl, hf, hg⟩
              refine ⟨_, rfl, ?_⟩
              have Kz13 := Lib.hid (Kz11.out.next hf hg)
              clear hf hg Kz11 S2
              refine hK.out _ _ trivial (fun _ => ?_)
              clear hK K
              try simp only [Act.put, List.setIfInBounds_toArray, List.set_cons_zero, List.set_cons_succ]
              refine wpAnyH_ready (rs := [13]) (by kernel_rfl) (by simp) ?_
              refine (AllReadyH.cons (o := { dst := some 66, op := _, type := _, pos := _, after := _, guard := _ }) rfl (fun K hK => ?_) AllReadyH.nil)
              rw [if_pos (by kernel_rfl)]
              refine wp_call_go Tryz.func64 (by kernel_rfl) (by kernel_rfl) (by rfl) (S3.out _ Kz13.out.rd) (by rfl) ?_
              rintro e z14 ⟨rfl, hf, hg⟩
              refine ⟨_, rfl, ?_⟩
              have Kz14 := Lib.hid (Kz13.out.next hf hg)
              clear hf hg Kz13 S3
              refine hK.out _ _ trivial (fun _ => ?_)
              clear hK K
              try simp only [Act.put, List.setIfInBounds_toArray, List.set_cons_zero, List.set_cons_succ]
              refine wpAnyH_ready (rs := [17]) (by kernel_rfl) (by simp) ?_
              refine (AllReadyH.cons (o := { dst := some 70, op := _, type := _, pos := _, after := _, guard := _ }) rfl (fun K hK => ?_) AllReadyH.nil)
              rw [if_pos (by kernel_rfl)]
              refine wp_call_go Tryz.func63 (by kernel_rfl) (by kernel_rfl) (by rfl) (S4.out _ Kz14.out.rd) (by rfl) ?_
              rintro e z15 ⟨rfl, hf, hg⟩
              refine ⟨_, rfl, ?_⟩
              have Kz15 := Lib.hid (Kz14.out.next hf hg)
              clear hf hg Kz14 S4
              refine hK.out _ _ trivial (fun _ => ?_)
              clear hK K
              try simp only [Act.put, List.setIfInBounds_toArray, List.set_cons_zero, List.set_cons_succ]
              refine wpAnyH_ready (rs := [21]) (by kernel_rfl) (by simp) ?_
              refine (AllReadyH.cons (o := { dst := some 74, op := _, type := _, pos := _, after := _, guard := _ }) rfl (fun K hK => ?_) AllReadyH.nil)
              rw [if_pos (by kernel_rfl)]
              refine wp_call_go Tryz.func63 (by kernel_rfl) (by kernel_rfl) (by rfl) (S5.out _ Kz15.out.rd) (by rfl) ?_
              rintro e z16 ⟨rfl, hf, hg⟩
              refine ⟨_, rfl, ?_⟩
              have Kz16 := Lib.hid (Kz15.out.next hf hg)
              clear hf hg Kz15 S5
              refine hK.out _ _ trivial (fun _ => ?_)
              clear hK K
              try simp only [Act.put, List.setIfInBounds_toArray, List.set_cons_zero, List.set_cons_succ]
              refine wpAnyH_ready (rs := [25]) (by kernel_rfl) (by simp) ?_
              refine (AllReadyH.cons (o := { dst := some 78, op := _, type := _, pos := _, after := _, guard := _ }) rfl (fun K hK => ?_) AllReadyH.nil)
              rw [if_pos (by kernel_rfl)]
              refine wp_call_go Tryz.func63 (by kernel_rfl) (by kernel_rfl) (by rfl) (S6.out _ Kz16.out.rd) (by rfl) ?_
              rintro e z17 ⟨rfl, hf, hg⟩
              refine ⟨_, rfl, ?_⟩
              have Kz17 := Lib.hid (Kz16.out.next hf hg)
              clear hf hg Kz16 S6
              refine hK.out _ _ trivial (fun _ => ?_)
              clear hK K
              try simp only [Act.put, List.setIfInBounds_toArray, List.set_cons_zero, List.set_cons_succ]
              refine wpAnyH_take (i := 26) (oi := { dst := some 79, op := _, type := _, pos := _, after := _, guard := _ }) (v := ?_) rfl (by kernel_rfl) (by kernel_rfl) (by kernel_rfl) (fun _ _ _ h => h) (Or.inl ⟨by kernel_rfl, ?_⟩) (by assumption) ?_
              rotate_left
              · (intro w hSw; (try dsimp only at hSw); go_simp); all_goals (with_reducible rfl)
              try simp only [Act.put, List.setIfInBounds_toArray, List.set_cons_zero, List.set_cons_succ]
              refine wpAnyH_ready (rs := [27]) (by kernel_rfl) (by simp) ?_
              refine (AllReadyH.cons (o := { dst := some 80, op := _, type := _, pos := _, after := _, guard := _ }) rfl (fun K hK => ?_) AllReadyH.nil)
              rw [if_pos (by kernel_rfl)]
              go_wp2_with fail
              have Kz18 := Lib.hid (Kz17.out.later (below_alloc (Below.refl _ _) (Nat.le_refl _) (.cells #[.string ⟨a1.toArray⟩, .string ⟨a2.toArray⟩, .bool a3, .int .i64 a4, .int .i64 a5, .int .i64 a6] 104)))
              have HBz18 := Lib.hid (heap_alloc_new z17 (.cells #[.string ⟨a1.toArray⟩, .string ⟨a2.toArray⟩, .bool a3, .int .i64 a4, .int .i64 a5, .int .i64 a6] 104))
              refine hK.out _ (z17.alloc (.cells #[.string ⟨a1.toArray⟩, .string ⟨a2.toArray⟩, .bool a3, .int .i64 a4, .int .i64 a5, .int .i64 a6] 104)) trivial (fun _ => ?_)
              generalize z17.alloc (.cells #[.string ⟨a1.toArray⟩, .string ⟨a2.toArray⟩, .bool a3, .int .i64 a4, .int .i64 a5, .int .i64 a6] 104) = z18 at Kz18 HBz18 ⊢
              generalize z17.heap.size = gA at HBz18 ⊢
              clear Kz17
              clear hK K
              try simp only [Act.put, List.setIfInBounds_toArray, List.set_cons_zero, List.set_cons_succ]
              refine wpAnyH_ready (rs := [28]) (by kernel_rfl) (by simp) ?_
              refine (AllReadyH.cons (o := { dst := some 81, op := _, type := _, pos := _, after := _, guard := _ }) rfl (fun K hK => ?_) AllReadyH.nil)
              rw [if_pos (by kernel_rfl)]
              refine wp_append_lies _ _ _ _ (by rfl) (gB + 1) 104 i0 _ 6 64 Tryz.underlying39 hi hz0 hz1 hz2 rfl (by decide) v rows.length rows.flatten (by rfl) Kz18.out.own ⟨gA, 0, none⟩ 1 1 [.string ⟨a1.toArray⟩, .string ⟨a2.toArray⟩, .bool a3, .int .i64 a4, .int .i64 a5, .int .i64 a6] (by rfl) (by rfl) (fun j u hj => by rw [Addr.add_lit, cell_of_heap HBz18.out]; simpa using hj) (by simp [Value.oneCell']) (by decide) (by simp only [maxLen]; omega) (by omega) (by have := Kz18.out.box.lt; omega) _ rfl ?_
              intro g cap z19 hown hgr hat hlt3
              have KP := Lib.hid (Kz18.out.pushRow (new := #[.string ⟨t2.toArray⟩, .string ⟨t3.toArray⟩, .string ⟨t6.toArray⟩, .int .i64 n4, .int .i64 n5, .slice (some ⟨g, 0, none⟩) (rows.length + 1) cap]) hown hgr)
              have XA := Lib.hid (Kz18.out.box.grown hgr Kz18.out.notB)
              clear hown hgr hat hlt3
              refine hK.out _ _ trivial (fun _ => ?_)
              clear hK K
              try simp only [Act.put, List.setIfInBounds_toArray, List.set_cons_zero, List.set_cons_succ]
              refine wpAnyH_take (i := 29) (oi := { dst := some 82, op := _, type := _, pos := _, after := _, guard := _ }) (v := ?_) rfl (by kernel_rfl) (by kernel_rfl) (by kernel_rfl) (fun _ _ _ h => h) (Or.inl ⟨by kernel_rfl, ?_⟩) (by assumption) ?_
              rotate_left
              · (intro w hSw; (try dsimp only at hSw); go_simp); all_goals (with_reducible rfl)
              try simp only [Act.put, List.setIfInBounds_toArray, List.set_cons_zero, List.set_cons_succ]
              refine wpAnyH_ready (rs := [30]) (by kernel_rfl) (by simp) ?_
              refine (AllReadyH.cons (o := { dst := none, op := _, type := _, pos := _, after := _, guard := _ }) rfl (fun K hK => ?_) AllReadyH.nil)
              rw [if_pos (by kernel_rfl)]
              refine wp_store_cell 39 _ _ (by rfl) gB 5 (.slice (some ⟨g, 0, none⟩) (rows.length + 1) cap) (by rfl) (by rfl) (by rfl) _ 41 XA.out.at_ (by simp) (by kernel_rfl) ?_
              refine hK.out _ (z19.setRow gB #[.string ⟨t2.toArray⟩, .string ⟨t3.toArray⟩, .string ⟨t6.toArray⟩, .int .i64 n4, .int .i64 n5, .slice (some ⟨g, 0, none⟩) (rows.length + 1) cap]) trivial (fun _ => ?_)
              clear hK K
              try simp only [Act.put]
              refine wpAnyH_done (by kernel_rfl) ?_ _
              go_wp2
              go_roundg (N - (i + 1))
              case measure => omega
              case rel =>
                refine ⟨i + 1, .slice (some ⟨g, 0, none⟩) (i + 1) cap, by omega, Nat.le_refl _, by go_num, ?_⟩
                have e1 : rulesF (i + 1) f8 = (l ++ [⟨a1, a2, a3, a4, a5, a6⟩], g6) := by rw [rulesF_snoc, HP.out]; simp only; rw [HRF.out]
                have e2 : rlRows (l ++ [⟨a1, a2, a3, a4, a5, a6⟩]) = rows ++ [[.string ⟨a1.toArray⟩, .string ⟨a2.toArray⟩, .bool a3, .int .i64 a4, .int .i64 a5, .int .i64 a6]] := by rw [← HROWS.out]; simp [rlRows, RlV.cells]
                rw [e1]
                simp only
                rw [e2]
                have h4 := KP.out
                rw [hrl] at h4
                exact h4
            · rw [if_pos (by kernel_rfl)]
              refine wp_call_go Tryz.func61 (by kernel_rfl) (by kernel_rfl) (by rfl) (S2.out _ Kz11.out.rd) (by rfl) ?_
              rintro e z21 ⟨rfl, hf, hg⟩
              refine ⟨_, rfl, ?_⟩
              have Kz21 := Lib.hid (Kz11.out.next hf hg)
              clear hf hg Kz11 S2
              refine hK.out _ _ trivial (fun _ => ?_)
              clear hK K
              try simp only [Act.put, List.setIfInBounds_toArray, List.set_cons_zero, List.set_cons_succ]
              refine wpAnyH_ready (rs := [1, 13]) (by kernel_rfl) (by simp) ?_
              refine (AllReadyH.cons (o := { dst := some 54, op := _, type := _, pos := _, after := _, guard := _ }) rfl (fun K hK => ?_) (AllReadyH.cons (o := { dst := some 66, op := _, type := _, pos := _, after := _, guard := _ }) rfl (fun K hK => ?_) AllReadyH.nil))
              · rw [if_pos (by kernel_rfl)]
                have c5 : z21.cell? ⟨gB, 5, none⟩ = some v := cell_of_heap Kz21.out.box.at_
                go_wp2_with fail
                clear c5
                refine hK.out _ _ trivial (fun _ => ?_)
                clear hK K
                try simp only [Act.put, List.setIfInBounds_toArray, List.set_cons_zero, List.set_cons_succ]
                refine wpAnyH_ready (rs := [13]) (by kernel_rfl) (by simp) ?_
                refine (AllReadyH.cons (o := { dst := some 66, op := _, type := _, pos := _, after := _, guard := _ }) rfl (fun K hK => ?_) AllReadyH.nil)
                rw [if_pos (by kernel_rfl)]
                refine wp_call_go Tryz.func64 (by kernel_rfl) (by kernel_rfl) (by rfl) (S3.out _ Kz21.out.rd) (by rfl) ?_
                rintro e z23 ⟨rfl, hf, hg⟩
                refine ⟨_, rfl, ?_⟩
                have Kz23 := Lib.hid (Kz21.out.next hf hg)
                clear hf hg Kz21 S3
                refine hK.out _ _ trivial (fun _ => ?_)
                clear hK K
                try simp only [Act.put, List.setIfInBounds_toArray, List.set_cons_zero, List.set_cons_succ]
                refine wpAnyH_ready (rs := [17]) (by kernel_rfl) (by simp) ?_
                refine (AllReadyH.cons (o := { dst := some 70, op := _, type := _, pos := _, after := _, guard := _ }) rfl (fun K hK => ?_) AllReadyH.nil)
                rw [if_pos (by kernel_rfl)]
                refine wp_call_go Tryz.func63 (by kernel_rfl) (by kernel_rfl) (by rfl) (S4.out _ Kz23.out.rd) (by rfl) ?_
                rintro e z24 ⟨rfl, hf, hg⟩
                refine ⟨_, rfl, ?_⟩
                have Kz24 := Lib.hid (Kz23.out.next hf hg)
                clear hf hg Kz23 S4
                refine hK.out _ _ trivial (fun _ => ?_)
                clear hK K
                try simp only [Act.put, List.setIfInBounds_toArray, List.set_cons_zero, List.set_cons_succ]
                refine wpAnyH_ready (rs := [21]) (by kernel_rfl) (by simp) ?_
                refine (AllReadyH.cons (o := { dst := some 74, op := _, type := _, pos := _, after := _, guard := _ }) rfl (fun K hK => ?_) AllReadyH.nil)
                rw [if_pos (by kernel_rfl)]
                refine wp_call_go Tryz.func63 (by kernel_rfl) (by kernel_rfl) (by rfl) (S5.out _ Kz24.out.rd) (by rfl) ?_
                rintro e z25 ⟨rfl, hf, hg⟩
                refine ⟨_, rfl, ?_⟩
                have Kz25 := Lib.hid (Kz24.out.next hf hg)
                clear hf hg Kz24 S5
                refine hK.out _ _ trivial (fun _ => ?_)
                clear hK K
                try simp only [Act.put, List.setIfInBounds_toArray, List.set_cons_zero, List.set_cons_succ]
                refine wpAnyH_ready (rs := [25]) (by kernel_rfl) (by simp) ?_
                refine (AllReadyH.cons (o := { dst := some 78, op := _, type := _, pos := _, after := _, guard := _ }) rfl (fun K hK => ?_) AllReadyH.nil)
                rw [if_pos (by kernel_rfl)]
                refine wp_call_go Tryz.func63 (by kernel_rfl) (by kernel_rfl) (by rfl) (S6.out _ Kz25.out.rd) (by rfl) ?_
                rintro e z26 ⟨rfl, hf, hg⟩
                refine ⟨_, rfl, ?_⟩
                have Kz26 := Lib.hid (Kz25.out.next hf hg)
                clear hf hg Kz25 S6
                refine hK.out _ _ trivial (fun _ => ?_)
                clear hK K
                try simp only [Act.put, List.setIfInBounds_toArray, List.set_cons_zero, List.set_cons_succ]
                refine wpAnyH_take (i := 26) (oi := { dst := some 79, op := _, type := _, pos := _, after := _, guard := _ }) (v := ?_) rfl (by kernel_rfl) (by kernel_rfl) (by kernel_rfl) (fun _ _ _ h => h) (Or.inl ⟨by kernel_rfl, ?_⟩) (by assumption) ?_
                rotate_left
                · (intro w hSw; (try dsimp only at hSw); go_simp); all_goals (with_reducible rfl)
                try simp only [Act.put, List.setIfInBounds_toArray, List.set_cons_zero, List.set_cons_succ]
                refine wpAnyH_ready (rs := [27]) (by kernel_rfl) (by simp) ?_
                refine (AllReadyH.cons (o := { dst := some 80, op := _, type := _, pos := _, after := _, guard := _ }) rfl (fun K hK => ?_) AllReadyH.nil)
                rw [if_pos (by kernel_rfl)]
                go_wp2_with fail
                have Kz27 := Lib.hid (Kz26.out.later (below_alloc (Below.refl _ _) (Nat.le_refl _) (.cells #[.string ⟨a1.toArray⟩, .string ⟨a2.toArray⟩, .bool a3, .int .i64 a4, .int .i64 a5, .int .i64 a6] 104)))
                have HBz27 := Lib.hid (heap_alloc_new z26 (.cells #[.string ⟨a1.toArray⟩, .string ⟨a2.toArray⟩, .bool a3, .int .i64 a4, .int .i64 a5, .int .i64 a6] 104))
                refine hK.out _ (z26.alloc (.cells #[.string ⟨a1.toArray⟩, .string ⟨a2.toArray⟩, .bool a3, .int .i64 a4, .int .i64 a5, .int .i64 a6] 104)) trivial (fun _ => ?_)
                generalize z26.alloc (.cells #[.string ⟨a1.toArray⟩, .string ⟨a2.toArray⟩, .bool a3, .int .i64 a4, .int .i64 a5, .int .i64 a6] 104) = z27 at Kz27 HBz27 ⊢
                generalize z26.heap.size = gA at HBz27 ⊢
                clear Kz26
                clear hK K
                try simp only [Act.put, List.setIfInBounds_toArray, List.set_cons_zero, List.set_cons_succ]
                refine wpAnyH_ready (rs := [28]) (by kernel_rfl) (by simp) ?_
                refine (AllReadyH.cons (o := { dst := some 81, op := _, type := _, pos := _, after := _, guard := _ }) rfl (fun K hK => ?_) AllReadyH.nil)
                rw [if_pos (by kernel_rfl)]
                refine wp_append_lies _ _ _ _ (by rfl) (gB + 1) 104 i0 _ 6 64 Tryz.underlying39 hi hz0 hz1 hz2 rfl (by decide) v rows.length rows.flatten (by rfl) Kz27.out.own ⟨gA, 0, none⟩ 1 1 [.string ⟨a1.toArray⟩, .string ⟨a2.toArray⟩, .bool a3, .int .i64 a4, .int .i64 a5, .int .i64 a6] (by rfl) (by rfl) (fun j u hj => by rw [Addr.add_lit, cell_of_heap HBz27.out]; simpa using hj) (by simp [Value.oneCell']) (by decide) (by simp only [maxLen]; omega) (by omega) (by have := Kz27.out.box.lt; omega) _ rfl ?_
                intro g cap z28 hown hgr hat hlt3
                have KP := Lib.hid (Kz27.out.pushRow (new := #[.string ⟨t2.toArray⟩, .string ⟨t3.toArray⟩, .string ⟨t6.toArray⟩, .int .i64 n4, .int .i64 n5, .slice (some ⟨g, 0, none⟩) (rows.length + 1) cap]) hown hgr)
                have XA := Lib.hid (Kz27.out.box.grown hgr Kz27.out.notB)
                clear hown hgr hat hlt3
                refine hK.out _ _ trivial (fun _ => ?_)
                clear hK K
                try simp only [Act.put, List.setIfInBounds_toArray, List.set_cons_zero, List.set_cons_succ]
                refine wpAnyH_take (i := 29) (oi := { dst := some 82, op := _, type := _, pos := _, after := _, guard := _ }) (v := ?_) rfl (by kernel_rfl) (by kernel_rfl) (by kernel_rfl) (fun _ _ _ h => h) (Or.inl ⟨by kernel_rfl, ?_⟩) (by assumption) ?_
                rotate_left
                · (intro w hSw; (try dsimp only at hSw); go_simp); all_goals (with_reducible rfl)
                try simp only [Act.put, List.setIfInBounds_toArray, List.set_cons_zero, List.set_cons_succ]
                refine wpAnyH_ready (rs := [30]) (by kernel_rfl) (by simp) ?_
                refine (AllReadyH.cons (o := { dst := none, op := _, type := _, pos := _, after := _, guard := _ }) rfl (fun K hK => ?_) AllReadyH.nil)
                rw [if_pos (by kernel_rfl)]
                refine wp_store_cell 39 _ _ (by rfl) gB 5 (.slice (some ⟨g, 0, none⟩) (rows.length + 1) cap) (by rfl) (by rfl) (by rfl) _ 41 XA.out.at_ (by simp) (by kernel_rfl) ?_
                refine hK.out _ (z28.setRow gB #[.string ⟨t2.toArray⟩, .string ⟨t3.toArray⟩, .string ⟨t6.toArray⟩, .int .i64 n4, .int .i64 n5, .slice (some ⟨g, 0, none⟩) (rows.length + 1) cap]) trivial (fun _ => ?_)
                clear hK K
                try simp only [Act.put]
                refine wpAnyH_done (by kernel_rfl) ?_ _
                go_wp2
                go_roundg (N - (i + 1))
                case measure => omega
                case rel =>
                  refine ⟨i + 1, .slice (some ⟨g, 0, none⟩) (i + 1) cap, by omega, Nat.le_refl _, by go_num, ?_⟩
                  have e1 : rulesF (i + 1) f8 = (l ++ [⟨a1, a2, a3, a4, a5, a6⟩], g6) := by rw [rulesF_snoc, HP.out]; simp only; rw [HRF.out]
                  have e2 : rlRows (l ++ [⟨a1, a2, a3, a4, a5, a6⟩]) = rows ++ [[.string ⟨a1.toArray⟩, .string ⟨a2.toArray⟩, .bool a3, .int .i64 a4, .int .i64 a5, .int .i64 a6]] := by rw [← HROWS.out]; simp [rlRows, RlV.cells]
                  rw [e1]
                  simp only
                  rw [e2]
                  have h4 := KP.out
                  rw [hrl] at h4
                  exact h4
              · rw [if_pos (by kernel_rfl)]
                refine wp_call_go Tryz.func64 (by kernel_rfl) (by kernel_rfl) (by rfl) (S3.out _ Kz21.out.rd) (by rfl) ?_
                rintro e z30 ⟨rfl, hf, hg⟩
                refine ⟨_, rfl, ?_⟩
                have Kz30 := Lib.hid (Kz21.out.next hf hg)
                clear hf hg Kz21 S3
                refine hK.out _ _ trivial (fun _ => ?_)
                clear hK K
                try simp only [Act.put, List.setIfInBounds_toArray, List.set_cons_zero, List.set_cons_succ]
                refine wpAnyH_ready (rs := [1, 17]) (by kernel_rfl) (by simp) ?_
                refine (AllReadyH.cons (o := { dst := some 54, op := _, type := _, pos := _, after := _, guard := _ }) rfl (fun K hK => ?_) (AllReadyH.cons (o := { dst := some 70, op := _, type := _, pos := _, after := _, guard := _ }) rfl (fun K hK => ?_) AllReadyH.nil))
                · rw [if_pos (by kernel_rfl)]
                  have c5 : z30.cell? ⟨gB, 5, none⟩ = some v := cell_of_heap Kz30.out.box.at_
                  go_wp2_with fail
                  clear c5
                  refine hK.out _ _ trivial (fun _ => ?_)
                  clear hK K
                  try simp only [Act.put, List.setIfInBounds_toArray, List.set_cons_zero, List.set_cons_succ]
                  refine wpAnyH_ready (rs := [17]) (by kernel_rfl) (by simp) ?_
                  refine (AllReadyH.cons (o := { dst := some 70, op := _, type := _, pos := _, after := _, guard := _ }) rfl (fun K hK => ?_) AllReadyH.nil)
                  rw [if_pos (by kernel_rfl)]
                  refine wp_call_go Tryz.func63 (by kernel_rfl) (by kernel_rfl) (by rfl) (S4.out _ Kz30.out.rd) (by rfl) ?_
                  rintro e z32 ⟨rfl, hf, hg⟩
                  refine ⟨_, rfl, ?_⟩
                  have Kz32 := Lib.hid (Kz30.out.next hf hg)
                  clear hf hg Kz30 S4
                  refine hK.out _ _ trivial (fun _ => ?_)
                  clear hK K
                  try simp only [Act.put, List.setIfInBounds_toArray, List.set_cons_zero, List.set_cons_succ]
                  refine wpAnyH_ready (rs := [21]) (by kernel_rfl) (by simp) ?_
                  refine (AllReadyH.cons (o := { dst := some 74, op := _, type := _, pos := _, after := _, guard := _ }) rfl (fun K hK => ?_) AllReadyH.nil)
                  rw [if_pos (by kernel_rfl)]
                  refine wp_call_go Tryz.func63 (by kernel_rfl) (by kernel_rfl) (by rfl) (S5.out _ Kz32.out.rd) (by rfl) ?_
                  rintro e z33 ⟨rfl, hf, hg⟩
                  refine ⟨_, rfl, ?_⟩
                  have Kz33 := Lib.hid (Kz32.out.next hf hg)
                  clear hf hg Kz32 S5
                  refine hK.out _ _ trivial (fun _ => ?_)
                  clear hK K
                  try simp only [Act.put, List.setIfInBounds_toArray, List.set_cons_zero, List.set_cons_succ]
                  refine wpAnyH_ready (rs := [25]) (by kernel_rfl) (by simp) ?_
                  refine (AllReadyH.cons (o := { dst := some 78, op := _, type := _, pos := _, after := _, guard := _ }) rfl (fun K hK => ?_) AllReadyH.nil)
                  rw [if_pos (by kernel_rfl)]
                  refine wp_call_go Tryz.func63 (by kernel_rfl) (by kernel_rfl) (by rfl) (S6.out _ Kz33.out.rd) (by rfl) ?_
                  rintro e z34 ⟨rfl, hf, hg⟩
                  refine ⟨_, rfl, ?_⟩
                  have Kz34 := Lib.hid (Kz33.out.next hf hg)
                  clear hf hg Kz33 S6
                  refine hK.out _ _ trivial (fun _ => ?_)
                  clear hK K
                  try simp only [Act.put, List.setIfInBounds_toArray, List.set_cons_zero, List.set_cons_succ]
                  refine wpAnyH_take (i := 26) (oi := { dst := some 79, op := _, type := _, pos := _, after := _, guard := _ }) (v := ?_) rfl (by kernel_rfl) (by kernel_rfl) (by kernel_rfl) (fun _ _ _ h => h) (Or.inl ⟨by kernel_rfl, ?_⟩) (by assumption) ?_
                  rotate_left
                  · (intro w hSw; (try dsimp only at hSw); go_simp); all_goals (with_reducible rfl)
                  try simp only [Act.put, List.setIfInBounds_toArray, List.set_cons_zero, List.set_cons_succ]
                  refine wpAnyH_ready (rs := [27]) (by kernel_rfl) (by simp) ?_
                  refine (AllReadyH.cons (o := { dst := some 80, op := _, type := _, pos := _, after := _, guard := _ }) rfl (fun K hK => ?_) AllReadyH.nil)
                  rw [if_pos (by kernel_rfl)]
                  go_wp2_with fail
                  have Kz35 := Lib.hid (Kz34.out.later (below_alloc (Below.refl _ _) (Nat.le_refl _) (.cells #[.string ⟨a1.toArray⟩, .string ⟨a2.toArray⟩, .bool a3, .int .i64 a4, .int .i64 a5, .int .i64 a6] 104)))
                  have HBz35 := Lib.hid (heap_alloc_new z34 (.cells #[.string ⟨a1.toArray⟩, .string ⟨a2.toArray⟩, .bool a3, .int .i64 a4, .int .i64 a5, .int .i64 a6] 104))
                  refine hK.out _ (z34.alloc (.cells #[.string ⟨a1.toArray⟩, .string ⟨a2.toArray⟩, .bool a3, .int .i64 a4, .int .i64 a5, .int .i64 a6] 104)) trivial (fun _ => ?_)
                  generalize z34.alloc (.cells #[.string ⟨a1.toArray⟩, .string ⟨a2.toArray⟩, .bool a3, .int .i64 a4, .int .i64 a5, .int .i64 a6] 104) = z35 at Kz35 HBz35 ⊢
                  generalize z34.heap.size = gA at HBz35 ⊢
                  clear Kz34
                  clear hK K
                  try simp only [Act.put, List.setIfInBounds_toArray, List.set_cons_zero, List.set_cons_succ]
                  refine wpAnyH_ready (rs := [28]) (by kernel_rfl) (by simp) ?_
                  refine (AllReadyH.cons (o := { dst := some 81, op := _, type := _, pos := _, after := _, guard := _ }) rfl (fun K hK => ?_) AllReadyH.nil)
                  rw [if_pos (by kernel_rfl)]
                  refine wp_append_lies _ _ _ _ (by rfl) (gB + 1) 104 i0 _ 6 64 Tryz.underlying39 hi hz0 hz1 hz2 rfl (by decide) v rows.length rows.flatten (by rfl) Kz35.out.own ⟨gA, 0, none⟩ 1 1 [.string ⟨a1.toArray⟩, .string ⟨a2.toArray⟩, .bool a3, .int .i64 a4, .int .i64 a5, .int .i64 a6] (by rfl) (by rfl) (fun j u hj => by rw [Addr.add_lit, cell_of_heap HBz35.out]; simpa using hj) (by simp [Value.oneCell']) (by decide) (by simp only [maxLen]; omega) (by omega) (by have := Kz35.out.box.lt; omega) _ rfl ?_
                  intro g cap z36 hown hgr hat hlt3
                  have KP := Lib.hid (Kz35.out.pushRow (new := #[.string ⟨t2.toArray⟩, .string ⟨t3.toArray⟩, .string ⟨t6.toArray⟩, .int .i64 n4, .int .i64 n5, .slice (some ⟨g, 0, none⟩) (rows.length + 1) cap]) hown hgr)
                  have XA := Lib.hid (Kz35.out.box.grown hgr Kz35.out.notB)
                  clear hown hgr hat hlt3
                  refine hK.out _ _ trivial (fun _ => ?_)
                  clear hK K
                  try simp only [Act.put, List.setIfInBounds_toArray, List.set_cons_zero, List.set_cons_succ]
                  refine wpAnyH_take (i := 29) (oi := { dst := some 82, op := _, type := _, pos := _, after := _, guard := _ }) (v := ?_) rfl (by kernel_rfl) (by kernel_rfl) (by kernel_rfl) (fun _ _ _ h => h) (Or.inl ⟨by kernel_rfl, ?_⟩) (by assumption) ?_
                  rotate_left
                  · (intro w hSw; (try dsimp only at hSw); go_simp); all_goals (with_reducible rfl)
                  try simp only [Act.put, List.setIfInBounds_toArray, List.set_cons_zero, List.set_cons_succ]
                  refine wpAnyH_ready (rs := [30]) (by kernel_rfl) (by simp) ?_
                  refine (AllReadyH.cons (o := { dst := none, op := _, type := _, pos := _, after := _, guard := _ }) rfl (fun K hK => ?_) AllReadyH.nil)
                  rw [if_pos (by kernel_rfl)]
                  refine wp_store_cell 39 _ _ (by rfl) gB 5 (.slice (some ⟨g, 0, none⟩) (rows.length + 1) cap) (by rfl) (by rfl) (by rfl) _ 41 XA.out.at_ (by simp) (by kernel_rfl) ?_
                  refine hK.out _ (z36.setRow gB #[.string ⟨t2.toArray⟩, .string ⟨t3.toArray⟩, .string ⟨t6.toArray⟩, .int .i64 n4, .int .i64 n5, .slice (some ⟨g, 0, none⟩) (rows.length + 1) cap]) trivial (fun _ => ?_)
                  clear hK K
                  try simp only [Act.put]
                  refine wpAnyH_done (by kernel_rfl) ?_ _
                  go_wp2
                  go_roundg (N - (i + 1))
                  case measure => omega
                  case rel =>
                    refine ⟨i + 1, .slice (some ⟨g, 0, none⟩) (i + 1) cap, by omega, Nat.le_refl _, by go_num, ?_⟩
                    have e1 : rulesF (i + 1) f8 = (l ++ [⟨a1, a2, a3, a4, a5, a6⟩], g6) := by rw [rulesF_snoc, HP.out]; simp only; rw [HRF.out]
                    have e2 : rlRows (l ++ [⟨a1, a2, a3, a4, a5, a6⟩]) = rows ++ [[.string ⟨a1.toArray⟩, .string ⟨a2.toArray⟩, .bool a3, .int .i64 a4, .int .i64 a5, .int .i64 a6]] := by rw [← HROWS.out]; simp [rlRows, RlV.cells]
                    rw [e1]
                    simp only
                    rw [e2]
                    have h4 := KP.out
                    rw [hrl] at h4
                    exact h4
                · rw [if_pos (by kernel_rfl)]
                  refine wp_call_go Tryz.func63 (by kernel_rfl) (by kernel_rfl) (by rfl) (S4.out _ Kz30.out.rd) (by rfl) ?_
                  rintro e z38 ⟨rfl, hf, hg⟩
                  refine ⟨_, rfl, ?_⟩
                  have Kz38 := Lib.hid (Kz30.out.next hf hg)
                  clear hf hg Kz30 S4
                  refine hK.out _ _ trivial (fun _ => ?_)
                  clear hK K
                  try simp only [Act.put, List.setIfInBounds_toArray, List.set_cons_zero, List.set_cons_succ]
                  refine wpAnyH_ready (rs := [1, 21]) (by kernel_rfl) (by simp) ?_
                  refine (AllReadyH.cons (o := { dst := some 54, op := _, type := _, pos := _, after := _, guard := _ }) rfl (fun K hK => ?_) (AllReadyH.cons (o := { dst := some 74, op := _, type := _, pos := _, after := _, guard := _ }) rfl (fun K hK => ?_) AllReadyH.nil))
                  · rw [if_pos (by kernel_rfl)]
                    have c5 : z38.cell? ⟨gB, 5, none⟩ = some v := cell_of_heap Kz38.out.box.at_
                    go_wp2_with fail
                    clear c5
                    refine hK.out _ _ trivial (fun _ => ?_)
                    clear hK K
                    try simp only [Act.put, List.setIfInBounds_toArray, List.set_cons_zero, List.set_cons_succ]
                    refine wpAnyH_ready (rs := [21]) (by kernel_rfl) (by simp) ?_
                    refine (AllReadyH.cons (o := { dst := some 74, op := _, type := _, pos := _, after := _, guard := _ }) rfl (fun K hK => ?_) AllReadyH.nil)
                    rw [if_pos (by kernel_rfl)]
                    refine wp_call_go Tryz.func63 (by kernel_rfl) (by kernel_rfl) (by rfl) (S5.out _ Kz38.out.rd) (by rfl) ?_
                    rintro e z40 ⟨rfl, hf, hg⟩
                    refine ⟨_, rfl, ?_⟩
                    have Kz40 := Lib.hid (Kz38.out.next hf hg)
                    clear hf hg Kz38 S5
                    refine hK.out _ _ trivial (fun _ => ?_)
                    clear hK K
                    try simp only [Act.put, List.setIfInBounds_toArray, List.set_cons_zero, List.set_cons_succ]
                    refine wpAnyH_ready (rs := [25]) (by kernel_rfl) (by simp) ?_
                    refine (AllReadyH.cons (o := { dst := some 78, op := _, type := _, pos := _, after := _, guard := _ }) rfl (fun K hK => ?_) AllReadyH.nil)
                    rw [if_pos (by kernel_rfl)]
                    refine wp_call_go Tryz.func63 (by kernel_rfl) (by kernel_rfl) (by rfl) (S6.out _ Kz40.out.rd) (by rfl) ?_
                    rintro e z41 ⟨rfl, hf, hg⟩
                    refine ⟨_, rfl, ?_⟩
                    have Kz41 := Lib.hid (Kz40.out.next hf hg)
                    clear hf hg Kz40 S6
                    refine hK.out _ _ trivial (fun _ => ?_)
                    clear hK K
                    try simp only [Act.put, List.setIfInBounds_toArray, List.set_cons_zero, List.set_cons_succ]
                    refine wpAnyH_take (i := 26) (oi := { dst := some 79, op := _, type := _, pos := _, after := _, guard := _ }) (v := ?_) rfl (by kernel_rfl) (by kernel_rfl) (by kernel_rfl) (fun _ _ _ h => h) (Or.inl ⟨by kernel_rfl, ?_⟩) (by assumption) ?_
                    rotate_left
                    · (intro w hSw; (try dsimp only at hSw); go_simp); all_goals (with_reducible rfl)
                    try simp only [Act.put, List.setIfInBounds_toArray, List.set_cons_zero, List.set_cons_succ]
                    refine wpAnyH_ready (rs := [27]) (by kernel_rfl) (by simp) ?_
                    refine (AllReadyH.cons (o := { dst := some 80, op := _, type := _, pos := _, after := _, guard := _ }) rfl (fun K hK => ?_) AllReadyH.nil)
                    rw [if_pos (by kernel_rfl)]
                    go_wp2_with fail
                    have Kz42 := Lib.hid (Kz41.out.later (below_alloc (Below.refl _ _) (Nat.le_refl _) (.cells #[.string ⟨a1.toArray⟩, .string ⟨a2.toArray⟩, .bool a3, .int .i64 a4, .int .i64 a5, .int .i64 a6] 104)))
                    have HBz42 := Lib.hid (heap_alloc_new z41 (.cells #[.string ⟨a1.toArray⟩, .string ⟨a2.toArray⟩, .bool a3, .int .i64 a4, .int .i64 a5, .int .i64 a6] 104))
                    refine hK.out _ (z41.alloc (.cells #[.string ⟨a1.toArray⟩, .string ⟨a2.toArray⟩, .bool a3, .int .i64 a4, .int .i64 a5, .int .i64 a6] 104)) trivial (fun _ => ?_)
                    generalize z41.alloc (.cells #[.string ⟨a1.toArray⟩, .string ⟨a2.toArray⟩, .bool a3, .int .i64 a4, .int .i64 a5, .int .i64 a6] 104) = z42 at Kz42 HBz42 ⊢
                    generalize z41.heap.size = gA at HBz42 ⊢
                    clear Kz41
                    clear hK K
                    try simp only [Act.put, List.setIfInBounds_toArray, List.set_cons_zero, List.set_cons_succ]
                    refine wpAnyH_ready (rs := [28]) (by kernel_rfl) (by simp) ?_
                    refine (AllReadyH.cons (o := { dst := some 81, op := _, type := _, pos := _, after := _, guard := _ }) rfl (fun K hK => ?_) AllReadyH.nil)
                    rw [if_pos (by kernel_rfl)]
                    refine wp_append_lies _ _ _ _ (by rfl) (gB + 1) 104 i0 _ 6 64 Tryz.underlying39 hi hz0 hz1 hz2 rfl (by decide) v rows.length rows.flatten (by rfl) Kz42.out.own ⟨gA, 0, none⟩ 1 1 [.string ⟨a1.toArray⟩, .string ⟨a2.toArray⟩, .bool a3, .int .i64 a4, .int .i64 a5, .int .i64 a6] (by rfl) (by rfl) (fun j u hj => by rw [Addr.add_lit, cell_of_heap HBz42.out]; simpa using hj) (by simp [Value.oneCell']) (by decide) (by simp only [maxLen]; omega) (by omega) (by have := Kz42.out.box.lt; omega) _ rfl ?_
                    intro g cap z43 hown hgr hat hlt3
                    have KP := Lib.hid (Kz42.out.pushRow (new := #[.string ⟨t2.toArray⟩, .string ⟨t3.toArray⟩, .string ⟨t6.toArray⟩, .int .i64 n4, .int .i64 n5, .slice (some ⟨g, 0, none⟩) (rows.length + 1) cap]) hown hgr)
                    have XA := Lib.hid (Kz42.out.box.grown hgr Kz42.out.notB)
                    clear hown hgr hat hlt3
                    refine hK.out _ _ trivial (fun _ => ?_)
                    clear hK K
                    try simp only [Act.put, List.setIfInBounds_toArray, List.set_cons_zero, List.set_cons_succ]
                    refine wpAnyH_take (i := 29) (oi := { dst := some 82, op := _, type := _, pos := _, after := _, guard := _ }) (v := ?_) rfl (by kernel_rfl) (by kernel_rfl) (by kernel_rfl) (fun _ _ _ h => h) (Or.inl ⟨by kernel_rfl, ?_⟩) (by assumption) ?_
                    rotate_left
                    · (intro w hSw; (try dsimp only at hSw); go_simp); all_goals (with_reducible rfl)
                    try simp only [Act.put, List.setIfInBounds_toArray, List.set_cons_zero, List.set_cons_succ]
                    refine wpAnyH_ready (rs := [30]) (by kernel_rfl) (by simp) ?_
                    refine (AllReadyH.cons (o := { dst := none, op := _, type := _, pos := _, after := _, guard := _ }) rfl (fun K hK => ?_) AllReadyH.nil)
                    rw [if_pos (by kernel_rfl)]
                    refine wp_store_cell 39 _ _ (by rfl) gB 5 (.slice (some ⟨g, 0, none⟩) (rows.length + 1) cap) (by rfl) (by rfl) (by rfl) _ 41 XA.out.at_ (by simp) (by kernel_rfl) ?_
                    refine hK.out _ (z43.setRow gB #[.string ⟨t2.toArray⟩, .string ⟨t3.toArray⟩, .string ⟨t6.toArray⟩, .int .i64 n4, .int .i64 n5, .slice (some ⟨g, 0, none⟩) (rows.length + 1) cap]) trivial (fun _ => ?_)
                    clear hK K
                    try simp only [Act.put]
                    refine wpAnyH_done (by kernel_rfl) ?_ _
                    go_wp2
                    go_roundg (N - (i + 1))
                    case measure => omega
                    case rel =>
                      refine ⟨i + 1, .slice (some ⟨g, 0, none⟩) (i + 1) cap, by omega, Nat.le_refl _, by go_num, ?_⟩
                      have e1 : rulesF (i + 1) f8 = (l ++ [⟨a1, a2, a3, a4, a5, a6⟩], g6) := by rw [rulesF_snoc, HP.out]; simp only; rw [HRF.out]
                      have e2 : rlRows (l ++ [⟨a1, a2, a3, a4, a5, a6⟩]) = rows ++ [[.string ⟨a1.toArray⟩, .string ⟨a2.toArray⟩, .bool a3, .int .i64 a4, .int .i64 a5, .int .i64 a6]] := by rw [← HROWS.out]; simp [rlRows, RlV.cells]
                      rw [e1]
                      simp only
                      rw [e2]
                      have h4 := KP.out
                      rw [hrl] at h4
                      exact h4
                  · rw [if_pos (by kernel_rfl)]
                    refine wp_call_go Tryz.func63 (by kernel_rfl) (by kernel_rfl) (by rfl) (S5.out _ Kz38.out.rd) (by rfl) ?_
                    rintro e z45 ⟨rfl, hf, hg⟩
                    refine ⟨_, rfl, ?_⟩
                    have Kz45 := Lib.hid (Kz38.out.next hf hg)
                    clear hf hg Kz38 S5
                    refine hK.out _ _ trivial (fun _ => ?_)
                    clear hK K
                    try simp only [Act.put, List.setIfInBounds_toArray, List.set_cons_zero, List.set_cons_succ]
                    refine wpAnyH_ready (rs := [1, 25]) (by kernel_rfl) (by simp) ?_
                    refine (AllReadyH.cons (o := { dst := some 54, op := _, type := _, pos := _, after := _, guard := _ }) rfl (fun K hK => ?_) (AllReadyH.cons (o := { dst := some 78, op := _, type := _, pos := _, after := _, guard := _ }) rfl (fun K hK => ?_) AllReadyH.nil))
                    · rw [if_pos (by kernel_rfl)]
                      have c5 : z45.cell? ⟨gB, 5, none⟩ = some v := cell_of_heap Kz45.out.box.at_
                      go_wp2_with fail
                      clear c5
                      refine hK.out _ _ trivial (fun _ => ?_)
                      clear hK K
                      try simp only [Act.put, List.setIfInBounds_toArray, List.set_cons_zero, List.set_cons_succ]
                      refine wpAnyH_ready (rs := [25]) (by kernel_rfl) (by simp) ?_
                      refine (AllReadyH.cons (o := { dst := some 78, op := _, type := _, pos := _, after := _, guard := _ }) rfl (fun K hK => ?_) AllReadyH.nil)
                      rw [if_pos (by kernel_rfl)]
                      refine wp_call_go Tryz.func63 (by kernel_rfl) (by kernel_rfl) (by rfl) (S6.out _ Kz45.out.rd) (by rfl) ?_
                      rintro e z47 ⟨rfl, hf, hg⟩
                      refine ⟨_, rfl, ?_⟩
                      have Kz47 := Lib.hid (Kz45.out.next hf hg)
                      clear hf hg Kz45 S6
                      refine hK.out _ _ trivial (fun _ => ?_)
                      clear hK K
                      try simp only [Act.put, List.setIfInBounds_toArray, List.set_cons_zero, List.set_cons_succ]
                      refine wpAnyH_take (i := 26) (oi := { dst := some 79, op := _, type := _, pos := _, after := _, guard := _ }) (v := ?_) rfl (by kernel_rfl) (by kernel_rfl) (by kernel_rfl) (fun _ _ _ h => h) (Or.inl ⟨by kernel_rfl, ?_⟩) (by assumption) ?_
                      rotate_left
                      · (intro w hSw; (try dsimp only at hSw); go_simp); all_goals (with_reducible rfl)
                      try simp only [Act.put, List.setIfInBounds_toArray, List.set_cons_zero, List.set_cons_succ]
                      refine wpAnyH_ready (rs := [27]) (by kernel_rfl) (by simp) ?_
                      refine (AllReadyH.cons (o := { dst := some 80, op := _, type := _, pos := _, after := _, guard := _ }) rfl (fun K hK => ?_) AllReadyH.nil)
                      rw [if_pos (by kernel_rfl)]
                      go_wp2_with fail
                      have Kz48 := Lib.hid (Kz47.out.later (below_alloc (Below.refl _ _) (Nat.le_refl _) (.cells #[.string ⟨a1.toArray⟩, .string ⟨a2.toArray⟩, .bool a3, .int .i64 a4, .int .i64 a5, .int .i64 a6] 104)))
                      have HBz48 := Lib.hid (heap_alloc_new z47 (.cells #[.string ⟨a1.toArray⟩, .string ⟨a2.toArray⟩, .bool a3, .int .i64 a4, .int .i64 a5, .int .i64 a6] 104))
                      refine hK.out _ (z47.alloc (.cells #[.string ⟨a1.toArray⟩, .string ⟨a2.toArray⟩, .bool a3, .int .i64 a4, .int .i64 a5, .int .i64 a6] 104)) trivial (fun _ => ?_)
                      generalize z47.alloc (.cells #[.string ⟨a1.toArray⟩, .string ⟨a2.toArray⟩, .bool a3, .int .i64 a4, .int .i64 a5, .int .i64 a6] 104) = z48 at Kz48 HBz48 ⊢
                      generalize z47.heap.size = gA at HBz48 ⊢
                      clear Kz47
                      clear hK K
                      try simp only [Act.put, List.setIfInBounds_toArray, List.set_cons_zero, List.set_cons_succ]
                      refine wpAnyH_ready (rs := [28]) (by kernel_rfl) (by simp) ?_
                      refine (AllReadyH.cons (o := { dst := some 81, op := _, type := _, pos := _, after := _, guard := _ }) rfl (fun K hK => ?_) AllReadyH.nil)
                      rw [if_pos (by kernel_rfl)]
                      refine wp_append_lies _ _ _ _ (by rfl) (gB + 1) 104 i0 _ 6 64 Tryz.underlying39 hi hz0 hz1 hz2 rfl (by decide) v rows.length rows.flatten (by rfl) Kz48.out.own ⟨gA, 0, none⟩ 1 1 [.string ⟨a1.toArray⟩, .string ⟨a2.toArray⟩, .bool a3, .int .i64 a4, .int .i64 a5, .int .i64 a6] (by rfl) (by rfl) (fun j u hj => by rw [Addr.add_lit, cell_of_heap HBz48.out]; simpa using hj) (by simp [Value.oneCell']) (by decide) (by simp only [maxLen]; omega) (by omega) (by have := Kz48.out.box.lt; omega) _ rfl ?_
                      intro g cap z49 hown hgr hat hlt3
                      have KP := Lib.hid (Kz48.out.pushRow (new := #[.string ⟨t2.toArray⟩, .string ⟨t3.toArray⟩, .string ⟨t6.toArray⟩, .int .i64 n4, .int .i64 n5, .slice (some ⟨g, 0, none⟩) (rows.length + 1) cap]) hown hgr)
                      have XA := Lib.hid (Kz48.out.box.grown hgr Kz48.out.notB)
                      clear hown hgr hat hlt3
                      refine hK.out _ _ trivial (fun _ => ?_)
                      clear hK K
                      try simp only [Act.put, List.setIfInBounds_toArray, List.set_cons_zero, List.set_cons_succ]
                      refine wpAnyH_take (i := 29) (oi := { dst := some 82, op := _, type := _, pos := _, after := _, guard := _ }) (v := ?_) rfl (by kernel_rfl) (by kernel_rfl) (by kernel_rfl) (fun _ _ _ h => h) (Or.inl ⟨by kernel_rfl, ?_⟩) (by assumption) ?_
                      rotate_left
                      · (intro w hSw; (try dsimp only at hSw); go_simp); all_goals (with_reducible rfl)
                      try simp only [Act.put, List.setIfInBounds_toArray, List.set_cons_zero, List.set_cons_succ]
                      refine wpAnyH_ready (rs := [30]) (by kernel_rfl) (by simp) ?_
                      refine (AllReadyH.cons (o := { dst := none, op := _, type := _, pos := _, after := _, guard := _ }) rfl (fun K hK => ?_) AllReadyH.nil)
                      rw [if_pos (by kernel_rfl)]
                      refine wp_store_cell 39 _ _ (by rfl) gB 5 (.slice (some ⟨g, 0, none⟩) (rows.length + 1) cap) (by rfl) (by rfl) (by rfl) _ 41 XA.out.at_ (by simp) (by kernel_rfl) ?_
                      refine hK.out _ (z49.setRow gB #[.string ⟨t2.toArray⟩, .string ⟨t3.toArray⟩, .string ⟨t6.toArray⟩, .int .i64 n4, .int .i64 n5, .slice (some ⟨g, 0, none⟩) (rows.length + 1) cap]) trivial (fun _ => ?_)
                      clear hK K
                      try simp only [Act.put]
                      refine wpAnyH_done (by kernel_rfl) ?_ _
                      go_wp2
                      go_roundg (N - (i + 1))
                      case measure => omega
                      case rel =>
                        refine ⟨i + 1, .slice (some ⟨g, 0, none⟩) (i + 1) cap, by omega, Nat.le_refl _, by go_num, ?_⟩
                        have e1 : rulesF (i + 1) f8 = (l ++ [⟨a1, a2, a3, a4, a5, a6⟩], g6) := by rw [rulesF_snoc, HP.out]; simp only; rw [HRF.out]
                        have e2 : rlRows (l ++ [⟨a1, a2, a3, a4, a5, a6⟩]) = rows ++ [[.string ⟨a1.toArray⟩, .string ⟨a2.toArray⟩, .bool a3, .int .i64 a4, .int .i64 a5, .int .i64 a6]] := by rw [← HROWS.out]; simp [rlRows, RlV.cells]
                        rw [e1]
                        simp only
                        rw [e2]
                        have h4 := KP.out
                        rw [hrl] at h4
                        exact h4
                    · rw [if_pos (by kernel_rfl)]
                      refine wp_call_go Tryz.func63 (by kernel_rfl) (by kernel_rfl) (by rfl) (S6.out _ Kz45.out.rd) (by rfl) ?_
                      rintro e z51 ⟨rfl, hf, hg⟩
                      refine ⟨_, rfl, ?_⟩
                      have Kz51 := Lib.hid (Kz45.out.next hf hg)
                      clear hf hg Kz45 S6
                      refine hK.out _ _ trivial (fun _ => ?_)
                      clear hK K
                      try simp only [Act.put, List.setIfInBounds_toArray, List.set_cons_zero, List.set_cons_succ]
                      refine wpAnyH_take (i := 26) (oi := { dst := some 79, op := _, type := _, pos := _, after := _, guard := _ }) (v := ?_) rfl (by kernel_rfl) (by kernel_rfl) (by kernel_rfl) (fun _ _ _ h => h) (Or.inl ⟨by kernel_rfl, ?_⟩) (by assumption) ?_
                      rotate_left
                      · (intro w hSw; (try dsimp only at hSw); go_simp); all_goals (with_reducible rfl)
                      try simp only [Act.put, List.setIfInBounds_toArray, List.set_cons_zero, List.set_cons_succ]
                      refine wpAnyH_ready (rs := [1, 27]) (by kernel_rfl) (by simp) ?_
                      refine (AllReadyH.cons (o := { dst := some 54, op := _, type := _, pos := _, after := _, guard := _ }) rfl (fun K hK => ?_) (AllReadyH.cons (o := { dst := some 80, op := _, type := _, pos := _, after := _, guard := _ }) rfl (fun K hK => ?_) AllReadyH.nil))
                      · rw [if_pos (by kernel_rfl)]
                        have c5 : z51.cell? ⟨gB, 5, none⟩ = some v := cell_of_heap Kz51.out.box.at_
                        go_wp2_with fail
                        clear c5
                        refine hK.out _ _ trivial (fun _ => ?_)
                        clear hK K
                        try simp only [Act.put, List.setIfInBounds_toArray, List.set_cons_zero, List.set_cons_succ]
                        refine wpAnyH_ready (rs := [27]) (by kernel_rfl) (by simp) ?_
                        refine (AllReadyH.cons (o := { dst := some 80, op := _, type := _, pos := _, after := _, guard := _ }) rfl (fun K hK => ?_) AllReadyH.nil)
                        rw [if_pos (by kernel_rfl)]
                        go_wp2_with fail
                        have Kz53 := Lib.hid (Kz51.out.later (below_alloc (Below.refl _ _) (Nat.le_refl _) (.cells #[.string ⟨a1.toArray⟩, .string ⟨a2.toArray⟩, .bool a3, .int .i64 a4, .int .i64 a5, .int .i64 a6] 104)))
                        have HBz53 := Lib.hid (heap_alloc_new z51 (.cells #[.string ⟨a1.toArray⟩, .string ⟨a2.toArray⟩, .bool a3, .int .i64 a4, .int .i64 a5, .int .i64 a6] 104))
                        refine hK.out _ (z51.alloc (.cells #[.string ⟨a1.toArray⟩, .string ⟨a2.toArray⟩, .bool a3, .int .i64 a4, .int .i64 a5, .int .i64 a6] 104)) trivial (fun _ => ?_)
                        generalize z51.alloc (.cells #[.string ⟨a1.toArray⟩, .string ⟨a2.toArray⟩, .bool a3, .int .i64 a4, .int .i64 a5, .int .i64 a6] 104) = z53 at Kz53 HBz53 ⊢
                        generalize z51.heap.size = gA at HBz53 ⊢
                        clear Kz51
                        clear hK K
                        try simp only [Act.put, List.setIfInBounds_toArray, List.set_cons_zero, List.set_cons_succ]
                        refine wpAnyH_ready (rs := [28]) (by kernel_rfl) (by simp) ?_
                        refine (AllReadyH.cons (o := { dst := some 81, op := _, type := _, pos := _, after := _, guard := _ }) rfl (fun K hK => ?_) AllReadyH.nil)
                        rw [if_pos (by kernel_rfl)]
                        refine wp_append_lies _ _ _ _ (by rfl) (gB + 1) 104 i0 _ 6 64 Tryz.underlying39 hi hz0 hz1 hz2 rfl (by decide) v rows.length rows.flatten (by rfl) Kz53.out.own ⟨gA, 0, none⟩ 1 1 [.string ⟨a1.toArray⟩, .string ⟨a2.toArray⟩, .bool a3, .int .i64 a4, .int .i64 a5, .int .i64 a6] (by rfl) (by rfl) (fun j u hj => by rw [Addr.add_lit, cell_of_heap HBz53.out]; simpa using hj) (by simp [Value.oneCell']) (by decide) (by simp only [maxLen]; omega) (by omega) (by have := Kz53.out.box.lt; omega) _ rfl ?_
                        intro g cap z54 hown hgr hat hlt3
                        have KP := Lib.hid (Kz53.out.pushRow (new := #[.string ⟨t2.toArray⟩, .string ⟨t3.toArray⟩, .string ⟨t6.toArray⟩, .int .i64 n4, .int .i64 n5, .slice (some ⟨g, 0, none⟩) (rows.length + 1) cap]) hown hgr)
                        have XA := Lib.hid (Kz53.out.box.grown hgr Kz53.out.notB)
                        clear hown hgr hat hlt3
                        refine hK.out _ _ trivial (fun _ => ?_)
                        clear hK K
                        try simp only [Act.put, List.setIfInBounds_toArray, List.set_cons_zero, List.set_cons_succ]
                        refine wpAnyH_take (i := 29) (oi := { dst := some 82, op := _, type := _, pos := _, after := _, guard := _ }) (v := ?_) rfl (by kernel_rfl) (by kernel_rfl) (by kernel_rfl) (fun _ _ _ h => h) (Or.inl ⟨by kernel_rfl, ?_⟩) (by assumption) ?_
                        rotate_left
                        · (intro w hSw; (try dsimp only at hSw); go_simp); all_goals (with_reducible rfl)
                        try simp only [Act.put, List.setIfInBounds_toArray, List.set_cons_zero, List.set_cons_succ]
                        refine wpAnyH_ready (rs := [30]) (by kernel_rfl) (by simp) ?_
                        refine (AllReadyH.cons (o := { dst := none, op := _, type := _, pos := _, after := _, guard := _ }) rfl (fun K hK => ?_) AllReadyH.nil)
                        rw [if_pos (by kernel_rfl)]
                        refine wp_store_cell 39 _ _ (by rfl) gB 5 (.slice (some ⟨g, 0, none⟩) (rows.length + 1) cap) (by rfl) (by rfl) (by rfl) _ 41 XA.out.at_ (by simp) (by kernel_rfl) ?_
                        refine hK.out _ (z54.setRow gB #[.string ⟨t2.toArray⟩, .string ⟨t3.toArray⟩, .string ⟨t6.toArray⟩, .int .i64 n4, .int .i64 n5, .slice (some ⟨g, 0, none⟩) (rows.length + 1) cap]) trivial (fun _ => ?_)
                        clear hK K
                        try simp only [Act.put]
                        refine wpAnyH_done (by kernel_rfl) ?_ _
                        go_wp2
                        go_roundg (N - (i + 1))
                        case measure => omega
                        case rel =>
                          refine ⟨i + 1, .slice (some ⟨g, 0, none⟩) (i + 1) cap, by omega, Nat.le_refl _, by go_num, ?_⟩
                          have e1 : rulesF (i + 1) f8 = (l ++ [⟨a1, a2, a3, a4, a5, a6⟩], g6) := by rw [rulesF_snoc, HP.out]; simp only; rw [HRF.out]
                          have e2 : rlRows (l ++ [⟨a1, a2, a3, a4, a5, a6⟩]) = rows ++ [[.string ⟨a1.toArray⟩, .string ⟨a2.toArray⟩, .bool a3, .int .i64 a4, .int .i64 a5, .int .i64 a6]] := by rw [← HROWS.out]; simp [rlRows, RlV.cells]
                          rw [e1]
                          simp only
                          rw [e2]
                          have h4 := KP.out
                          rw [hrl] at h4
                          exact h4
                      · rw [if_pos (by kernel_rfl)]
                        go_wp2_with fail
                        have Kz56 := Lib.hid (Kz51.out.later (below_alloc (Below.refl _ _) (Nat.le_refl _) (.cells #[.string ⟨a1.toArray⟩, .string ⟨a2.toArray⟩, .bool a3, .int .i64 a4, .int .i64 a5, .int .i64 a6] 104)))
                        have HBz56 := Lib.hid (heap_alloc_new z51 (.cells #[.string ⟨a1.toArray⟩, .string ⟨a2.toArray⟩, .bool a3, .int .i64 a4, .int .i64 a5, .int .i64 a6] 104))
                        refine hK.out _ (z51.alloc (.cells #[.string ⟨a1.toArray⟩, .string ⟨a2.toArray⟩, .bool a3, .int .i64 a4, .int .i64 a5, .int .i64 a6] 104)) trivial (fun _ => ?_)
                        generalize z51.alloc (.cells #[.string ⟨a1.toArray⟩, .string ⟨a2.toArray⟩, .bool a3, .int .i64 a4, .int .i64 a5, .int .i64 a6] 104) = z56 at Kz56 HBz56 ⊢
                        generalize z51.heap.size = gA at HBz56 ⊢
                        clear Kz51
                        clear hK K
                        try simp only [Act.put, List.setIfInBounds_toArray, List.set_cons_zero, List.set_cons_succ]
                        refine wpAnyH_ready (rs := [1]) (by kernel_rfl) (by simp) ?_
                        refine (AllReadyH.cons (o := { dst := some 54, op := _, type := _, pos := _, after := _, guard := _ }) rfl (fun K hK => ?_) AllReadyH.nil)
                        rw [if_pos (by kernel_rfl)]
                        have c5 : z56.cell? ⟨gB, 5, none⟩ = some v := cell_of_heap Kz56.out.box.at_
                        go_wp2_with fail
                        clear c5
                        refine hK.out _ _ trivial (fun _ => ?_)
                        clear hK K
                        try simp only [Act.put, List.setIfInBounds_toArray, List.set_cons_zero, List.set_cons_succ]
                        refine wpAnyH_ready (rs := [28]) (by kernel_rfl) (by simp) ?_
                        refine (AllReadyH.cons (o := { dst := some 81, op := _, type := _, pos := _, after := _, guard := _ }) rfl (fun K hK => ?_) AllReadyH.nil)
                        rw [if_pos (by kernel_rfl)]
                        refine wp_append_lies _ _ _ _ (by rfl) (gB + 1) 104 i0 _ 6 64 Tryz.underlying39 hi hz0 hz1 hz2 rfl (by decide) v rows.length rows.flatten (by rfl) Kz56.out.own ⟨gA, 0, none⟩ 1 1 [.string ⟨a1.toArray⟩, .string ⟨a2.toArray⟩, .bool a3, .int .i64 a4, .int .i64 a5, .int .i64 a6] (by rfl) (by rfl) (fun j u hj => by rw [Addr.add_lit, cell_of_heap HBz56.out]; simpa using hj) (by simp [Value.oneCell']) (by decide) (by simp only [maxLen]; omega) (by omega) (by have := Kz56.out.box.lt; omega) _ rfl ?_
                        intro g cap z58 hown hgr hat hlt3
                        have KP := Lib.hid (Kz56.out.pushRow (new := #[.string ⟨t2.toArray⟩, .string ⟨t3.toArray⟩, .string ⟨t6.toArray⟩, .int .i64 n4, .int .i64 n5, .slice (some ⟨g, 0, none⟩) (rows.length + 1) cap]) hown hgr)
                        have XA := Lib.hid (Kz56.out.box.grown hgr Kz56.out.notB)
                        clear hown hgr hat hlt3
                        refine hK.out _ _ trivial (fun _ => ?_)
                        clear hK K
                        try simp only [Act.put, List.setIfInBounds_toArray, List.set_cons_zero, List.set_cons_succ]
                        refine wpAnyH_take (i := 29) (oi := { dst := some 82, op := _, type := _, pos := _, after := _, guard := _ }) (v := ?_) rfl (by kernel_rfl) (by kernel_rfl) (by kernel_rfl) (fun _ _ _ h => h) (Or.inl ⟨by kernel_rfl, ?_⟩) (by assumption) ?_
                        rotate_left
                        · (intro w hSw; (try dsimp only at hSw); go_simp); all_goals (with_reducible rfl)
                        try simp only [Act.put, List.setIfInBounds_toArray, List.set_cons_zero, List.set_cons_succ]
                        refine wpAnyH_ready (rs := [30]) (by kernel_rfl) (by simp) ?_
                        refine (AllReadyH.cons (o := { dst := none, op := _, type := _, pos := _, after := _, guard := _ }) rfl (fun K hK => ?_) AllReadyH.nil)
                        rw [if_pos (by kernel_rfl)]
                        refine wp_store_cell 39 _ _ (by rfl) gB 5 (.slice (some ⟨g, 0, none⟩) (rows.length + 1) cap) (by rfl) (by rfl) (by rfl) _ 41 XA.out.at_ (by simp) (by kernel_rfl) ?_
                        refine hK.out _ (z58.setRow gB #[.string ⟨t2.toArray⟩, .string ⟨t3.toArray⟩, .string ⟨t6.toArray⟩, .int .i64 n4, .int .i64 n5, .slice (some ⟨g, 0, none⟩) (rows.length + 1) cap]) trivial (fun _ => ?_)
                        clear hK K
                        try simp only [Act.put]
                        refine wpAnyH_done (by kernel_rfl) ?_ _
                        go_wp2
                        go_roundg (N - (i + 1))
                        case measure => omega
                        case rel =>
                          refine ⟨i + 1, .slice (some ⟨g, 0, none⟩) (i + 1) cap, by omega, Nat.le_refl _, by go_num, ?_⟩
                          have e1 : rulesF (i + 1) f8 = (l ++ [⟨a1, a2, a3, a4, a5, a6⟩], g6) := by rw [rulesF_snoc, HP.out]; simp only; rw [HRF.out]
                          have e2 : rlRows (l ++ [⟨a1, a2, a3, a4, a5, a6⟩]) = rows ++ [[.string ⟨a1.toArray⟩, .string ⟨a2.toArray⟩, .bool a3, .int .i64 a4, .int .i64 a5, .int .i64 a6]] := by rw [← HROWS.out]; simp [rlRows, RlV.cells]
                          rw [e1]
                          simp only
                          rw [e2]
                          have h4 := KP.out
                          rw [hrl] at h4
                          exact h4
        · obtain rfl : i = N := by omega
          simp only [hP] at HRES
          clear hP hfl
          have K := Kwr
          clear Kwr
          obtain ⟨a, c, rfl⟩ := K.out.form
          go_wp2_with fail
          refine (done_any b f _ (K.out.rd).inf).mono ?_
          rintro e w' ⟨rfl, rfl⟩
          have HRX := Lib.hid (K.out.rd).rb
          have HXX := Lib.hid (K.out.box).at_
          have HBX := Lib.hid (K.out.rd).below
          rcases doneF_cases f with h0 | h0
          · have HR2 : Hid (res = some ⟨t2, t3, t6, n4, n5, l⟩) := by show _ = _; rw [HRES.out]; exact if_pos h0
            rw [h0]
            clear h0
            go_wp2_with (first
              | (refine wpList_load_row (by rfl) 41 _ (by rfl) gB (by rfl) 41 _ (0, 0) _ (by exact HXX.out) Tryz.underlying41 rfl (by kernel_rfl) ?_)
              | (refine wpList_store_row (by rfl) 41 _ _ (by rfl) w.heap.size _ (by rfl) (by rfl) 41 _ (by exact HRX.out) (by kernel_rfl) (by kernel_rfl) (by kernel_rfl) ?_))
            refine bodyPost_ret (results_cell_tmp rfl _ _ w.heap.size 41 _ _ rfl (setRow_heap _ _ _ _ _ _ HRX.out) Tryz.underlying41 rfl (by kernel_rfl)) rfl ?_
            rw [HR2.out]
            refine ⟨_, rfl, ?_, below_one_row _ _ _ _ _ HBX.out (Nat.le_refl _)⟩
            exact own_slAt (own_kept K.out.own fun g h1 _ => setRow_other _ _ _ _ (by have := K.out.box.far; omega)) (rlRows_six l) (by rw [rlRows_len]; show l.length ≤ _; omega)
          · have HR2 : Hid (res = none) := by show _ = _; rw [HRES.out]; exact if_neg (fun h => by rw [h0] at h; exact absurd h (by decide))
            rw [h0]
            clear h0
            go_wp2_with (refine wpList_store_row (by rfl) 41 _ _ (by rfl) w.heap.size _ (by rfl) (by rfl) 41 _ (by exact HRX.out) (by kernel_rfl) (by kernel_rfl) (by kernel_rfl) ?_)
            refine bodyPost_ret (results_cell_tmp rfl _ _ w.heap.size 41 _ _ rfl (setRow_heap _ _ _ _ _ _ HRX.out) Tryz.underlying41 rfl (by kernel_rfl)) rfl ?_
            rw [HR2.out]
            exact ⟨.slice none 0 0, rfl, slAt_nil _ _, below_one_row _ _ _ _ _ HBX.out (Nat.le_refl _)⟩

end Go.Proofs.YtajmkkjlhmeolaaGreatDoor
