/-
  SEVERAL SMALL TEXTS IN ONE.
-/
import Derived.Test.YtajmkkjlhmeolaaGreatDoorMfVer
import Derived.Test.YtajmkkjlhmeolaaGreatDoorMfBk
import Derived.Test.YtajmkkjlhmeolaaGreatDoorMtApart
import Derived.Test.YtajmkkjlhmeolaaGreatDoorMtReadBk
/-
  SameVersion, SameUpload, SameBucket at data that is the same.
-/
namespace Go.Proofs.YtajmkkjlhmeolaaGreatDoor
open Go.RowKit

set_option maxHeartbeats 2000000 in
set_option maxRecDepth 100000 in
theorem sameVer_any (p : VerV) (v v' : Value) (w : World) (h : SlAt w 1 v (intRows p.blobs)) (h' : SlAt w 1 v' (intRows p.blobs)) :
    Calls Tryz.prog 35 #[.agg (p.cells v), .agg (p.cells v')] w fun e w' => e = .returned (.bool true) ∧ Below w.heap.size w w' := by
  obtain ⟨a, c, rfl⟩ := sl_form h
  obtain ⟨a', c', rfl⟩ := sl_form h'
  have HA := Lib.hid (ints_at h)
  have HA' := Lib.hid (ints_at h')
  have hl : p.blobs.length ≤ 140737488351232 := by
    obtain ⟨_, _, _, h2, _⟩ := h
    rwa [intRows_len] at h2
  clear h h'
  obtain ⟨q, u, m, e, t, z, y, l⟩ := p
  simp only at hl
  simp only [VerV.cells] at HA HA' ⊢
  obtain ⟨W1, hW1⟩ : ∃ W1, W1 = (w.alloc (.cells #[.int .i64 q, .bool u, .bool m, .string ⟨e.toArray⟩, .string ⟨t.toArray⟩, .int .i64 z, .int .i64 y, .slice a l.length c] 47)).alloc (.cells #[.int .i64 q, .bool u, .bool m, .string ⟨e.toArray⟩, .string ⟨t.toArray⟩, .int .i64 z, .int .i64 y, .slice a' l.length c'] 47) := ⟨_, rfl⟩
  have B1 : Hid (Below w.heap.size w W1) := by show Below _ _ _; rw [hW1]; exact below_alloc (below_alloc (Below.refl _ _) (Nat.le_refl _) _) (Nat.le_refl _) _
  have X1 : Hid (W1.cell? ⟨w.heap.size, 7, none⟩ = some (.slice a l.length c)) := by show _ = _; rw [hW1]; exact cell_past _ (cell_new _ _ _ _ _ _ rfl rfl)
  have X2 : Hid (W1.cell? ⟨w.heap.size + 1, 7, none⟩ = some (.slice a' l.length c')) := by show _ = _; rw [hW1]; exact cell_new _ _ _ _ _ _ (by simp) rfl
  go_enter Tryz.func35, Tryz.ntmps35
  go_wp2
  go_loopg [5] l.length (fun gg s5 wr => ∃ i : Nat, i ≤ l.length ∧ l.length - i ≤ gg ∧ s5 = .int .i64 i ∧ ∃ n, wr = W1.drewN n)
  case atStart => exact ⟨0, Nat.zero_le _, by omega, rfl, 0, by rw [hW1]; rfl⟩
  case round =>
    obtain ⟨i, hin, hgg, rfl, nq, rfl⟩ := hrel
    clear hW1
    have k7 : W1.cell? ⟨w.heap.size, 7, none⟩ = some (.slice a l.length c) := X1.out
    have m7 : W1.cell? ⟨w.heap.size + 1, 7, none⟩ = some (.slice a' l.length c') := X2.out
    by_cases hlt : i < l.length
    · obtain ⟨x, hx⟩ : ∃ x, l[i]? = some x := ⟨_, List.getElem?_eq_getElem hlt⟩
      obtain ⟨b, off, ha, hc⟩ := HA.out i x hx
      obtain ⟨b', off', ha', hc'⟩ := HA'.out i x hx
      rw [ha] at k7
      rw [ha'] at m7
      have HAE := Lib.hid ha
      have HAE' := Lib.hid ha'
      have k0 := cell_later' B1.out hc
      have m0 := cell_later' B1.out hc'
      have hltz : (i : Int) < (l.length : Int) := by omega
      clear hx hc hc' ha ha'
      go_wp2
      go_quiet (fail)
      go_wp2
      go_roundg (l.length - (i + 1))
      case measure => omega
      case rel => exact ⟨i + 1, by omega, Nat.le_refl _, by go_num, _, rfl⟩
    · obtain rfl : i = l.length := by omega
      go_wp2
      go_ret
      exact ⟨rfl, belowDrewN B1.out _⟩

set_option maxHeartbeats 2000000 in
set_option maxRecDepth 100000 in
theorem sameUp_any (p : UpV) (w : World) :
    Calls Tryz.prog 36 #[.agg p.cells, .agg p.cells] w fun e w' => e = .returned (.bool true) ∧ Below w.heap.size w w' := by
  obtain ⟨q, k1, k2, k3, k4, t⟩ := p
  simp only [UpV.cells]
  go_enter Tryz.func36, Tryz.ntmps36
  go_wp2
  go_loopg [5] 0 (fun gg s5 wr => s5 = .int .i64 0 ∧ wr = (w.alloc (.cells #[.int .i64 q, .string ⟨k1.toArray⟩, .string ⟨k2.toArray⟩, .string ⟨k3.toArray⟩, .string ⟨k4.toArray⟩, .int .i64 t, .slice none 0 0] 52)).alloc (.cells #[.int .i64 q, .string ⟨k1.toArray⟩, .string ⟨k2.toArray⟩, .string ⟨k3.toArray⟩, .string ⟨k4.toArray⟩, .int .i64 t, .slice none 0 0] 52))
  case atStart => exact ⟨rfl, rfl⟩
  case round =>
    obtain ⟨rfl, rfl⟩ := hrel
    go_wp2
    go_ret
    exact ⟨rfl, below_alloc (below_alloc (Below.refl _ _) (Nat.le_refl _) _) (Nat.le_refl _) _⟩

theorem eqin_rl (r : RlV) (w : World) : (Op.equalIn 10000 104 (.agg r.cells.toArray) (.agg r.cells.toArray)).run Tryz.prog w = .ok true w := by
  have hS : Tryz.prog.underlying 104 = some (.struct (Tryz.prog.fieldsOf 104)) := by kernel_rfl
  have hp : Tryz.prog.stoodInHeld 104 = false := by kernel_rfl
  rw [show (10000 : Nat) = 9999 + 1 from rfl, run_equalIn_agg w 9999 104 _ _ hS hp]
  simp only [Program.fieldsOf, Tryz.underlying104, RlV.cells]
  go_simp
theorem neq_rl (r : RlV) (w : World) : (binOp .neq 104 (.agg r.cells.toArray) (.agg r.cells.toArray)).run Tryz.prog w = .ok (.bool false) w := by
  rw [run_neq_struct, eqin_rl]; rfl

set_option maxHeartbeats 2000000 in
set_option maxRecDepth 100000 in
theorem sameBk_any (p : BkV) (v v' : Value) (w : World) (h : SlAt w 6 v (rlRows p.rules)) (h' : SlAt w 6 v' (rlRows p.rules)) :
    Calls Tryz.prog 34 #[.agg (p.cells v), .agg (p.cells v')] w fun e w' => e = .returned (.bool true) ∧ Below w.heap.size w w' := by
  obtain ⟨a, c, rfl⟩ := rl_form h
  obtain ⟨a', c', rfl⟩ := rl_form h'
  have HA := Lib.hid (rules_at h)
  have HA' := Lib.hid (rules_at h')
  have hl : p.rules.length ≤ 140737488351232 := by
    obtain ⟨_, _, _, h2, _⟩ := h
    rwa [rlRows_len] at h2
  clear h h'
  obtain ⟨k1, k2, k3, y, m, l⟩ := p
  simp only at hl
  simp only [BkV.cells] at HA HA' ⊢
  obtain ⟨W1, hW1⟩ : ∃ W1, W1 = (w.alloc (.cells #[.string ⟨k1.toArray⟩, .string ⟨k2.toArray⟩, .string ⟨k3.toArray⟩, .int .i64 y, .int .i64 m, .slice a l.length c] 41)).alloc (.cells #[.string ⟨k1.toArray⟩, .string ⟨k2.toArray⟩, .string ⟨k3.toArray⟩, .int .i64 y, .int .i64 m, .slice a' l.length c'] 41) := ⟨_, rfl⟩
  have B1 : Hid (Below w.heap.size w W1) := by show Below _ _ _; rw [hW1]; exact below_alloc (below_alloc (Below.refl _ _) (Nat.le_refl _) _) (Nat.le_refl _) _
  have X1 : Hid (W1.cell? ⟨w.heap.size, 5, none⟩ = some (.slice a l.length c)) := by show _ = _; rw [hW1]; exact cell_past _ (cell_new _ _ _ _ _ _ rfl rfl)
  have X2 : Hid (W1.cell? ⟨w.heap.size + 1, 5, none⟩ = some (.slice a' l.length c')) := by show _ = _; rw [hW1]; exact cell_new _ _ _ _ _ _ (by simp) rfl
  go_enter Tryz.func34, Tryz.ntmps34
  go_wp2
  go_loopg [5] l.length (fun gg s5 wr => ∃ i : Nat, i ≤ l.length ∧ l.length - i ≤ gg ∧ s5 = .int .i64 i ∧ ∃ n, wr = W1.drewN n)
  case atStart => exact ⟨0, Nat.zero_le _, by omega, rfl, 0, by rw [hW1]; rfl⟩
  case round =>
    obtain ⟨i, hin, hgg, rfl, nq, rfl⟩ := hrel
    clear hW1
    have k7 : W1.cell? ⟨w.heap.size, 5, none⟩ = some (.slice a l.length c) := X1.out
    have m7 : W1.cell? ⟨w.heap.size + 1, 5, none⟩ = some (.slice a' l.length c') := X2.out
    by_cases hlt : i < l.length
    · obtain ⟨x, hx⟩ : ∃ x, l[i]? = some x := ⟨_, List.getElem?_eq_getElem hlt⟩
      obtain ⟨b, off, ha, hc⟩ := HA.out i x hx
      obtain ⟨b', off', ha', hc'⟩ := HA'.out i x hx
      rw [ha] at k7
      rw [ha'] at m7
      have HAE := Lib.hid ha
      have HAE' := Lib.hid ha'
      have hcc := fun j u hj => cell_later' B1.out (hc j u hj)
      have hcc' := fun j u hj => cell_later' B1.out (hc' j u hj)
      have hltz : (i : Int) < (l.length : Int) := by omega
      clear hx hc hc' ha ha'
      obtain ⟨rid, rpre, ron, rd, rn, ra⟩ := x
      have c0 := hcc 0 _ rfl
      have c1 := hcc 1 _ rfl
      have c2 := hcc 2 _ rfl
      have c3 := hcc 3 _ rfl
      have c4 := hcc 4 _ rfl
      have c5 := hcc 5 _ rfl
      have d0 := hcc' 0 _ rfl
      have d1 := hcc' 1 _ rfl
      have d2 := hcc' 2 _ rfl
      have d3 := hcc' 3 _ rfl
      have d4 := hcc' 4 _ rfl
      have d5 := hcc' 5 _ rfl
      simp only [Nat.add_zero] at c0 d0
      clear hcc hcc'
      have HN := Lib.hid (fun w => neq_rl ⟨rid, rpre, ron, rd, rn, ra⟩ w)
      have hne := fun nq => HN.out (W1.drewN nq)
      simp only [RlV.cells] at hne
      go_wp2
      go_quiet (fail)
      go_wp2
      go_roundg (l.length - (i + 1))
      case measure => omega
      case rel => exact ⟨i + 1, by omega, Nat.le_refl _, by go_num, _, rfl⟩
    · obtain rfl : i = l.length := by omega
      go_wp2
      go_ret
      exact ⟨rfl, belowDrewN B1.out _⟩

end Go.Proofs.YtajmkkjlhmeolaaGreatDoor

/-
  A part is itself; a store of one cell of a row behind which the world is a name.
-/
namespace Go.Proofs.YtajmkkjlhmeolaaGreatDoor
open Go.RowKit Go.Lib

theorem eqin_part (p : PartV) (w : World) : (Op.equalIn 10000 56 (.agg p.cells) (.agg p.cells)).run Tryz.prog w = .ok true w := by
  have hS : Tryz.prog.underlying 56 = some (.struct (Tryz.prog.fieldsOf 56)) := by kernel_rfl
  have hp : Tryz.prog.stoodInHeld 56 = false := by kernel_rfl
  rw [show (10000 : Nat) = 9999 + 1 from rfl, run_equalIn_agg w 9999 56 _ _ hS hp]
  simp only [Program.fieldsOf, Tryz.underlying56, PartV.cells]
  go_simp
theorem eql_part (p : PartV) (w : World) : (binOp .eql 56 (.agg p.cells) (.agg p.cells)).run Tryz.prog w = .ok (.bool true) w := by
  rw [run_eql_struct, eqin_part]; rfl

theorem wpList_store_cellN {P : Program} {ops : Array Oper} {rest : List Oper} {o : Oper} {a : Act} {w : World} {Q : Exit → Act → World → Prop} (hgd : o.guard = none) (ty : TypeId) (x y : Operand) (ho : o.op = .store ty x y)
    (g off : Nat) (v : Value) (hx : a.eval x = .pointer (some ⟨g, off, none⟩)) (hy : a.eval y = v) (h1 : v.oneCell' = true) (old : Array Value)
    (t : TypeId) (hg : w.heap[g]? = some (.cells old t (0, 0))) (hoff : off < old.size) (hi : (P.info? ty).map (·.size) = some 1)
    (p : World → Prop) (hp : p (w.setRow g (old.setIfInBounds off v))) (h : ∀ W, p W → wpList P ops Q rest (a.put o.dst undef) W) : wpList P ops Q (o :: rest) a w :=
  wpList_plain hgd fun _ hK => wp_store_cell ty x y ho g off v hx hy h1 old t hg hoff hi (hK _ _ (h _ hp))

def notSl : Value → Bool
  | .slice _ _ _ => false
  | _ => true
theorem rl_notSl (l : List RlV) : ∀ r ∈ rlRows l, ∀ u ∈ r, notSl u = true := by
  intro r hr u hu
  simp only [rlRows, List.mem_map] at hr
  obtain ⟨x, _, rfl⟩ := hr
  simp only [RlV.cells, List.mem_cons, List.not_mem_nil, or_false] at hu
  rcases hu with rfl | rfl | rfl | rfl | rfl | rfl <;> rfl
theorem int_notSl (l : List Int) : ∀ r ∈ intRows l, ∀ u ∈ r, notSl u = true := by
  intro r hr u hu
  simp only [intRows, List.mem_map] at hr
  obtain ⟨x, _, rfl⟩ := hr
  simp only [List.mem_singleton] at hu
  subst hu
  rfl
/-- a row's slice was stored over: rows without slices are as they were -/
theorem SlAt.gone {w : World} {sz : Nat} {v : Value} {rows : List (List Value)} (h : SlAt w sz v rows) {g : Nat} {U0 U1 : Array Value} {T : TypeId} {fr : Nat × Nat} (hx : w.heap[g]? = some (.cells U0 T fr))
    (hd : ∀ (o : Nat) (u : Value), U0[o]? = some u → notSl u = true → U1[o]? = some u) (hr : ∀ r ∈ rows, ∀ u ∈ r, notSl u = true) : SlAt (w.setRow g U1) sz v rows := by
  obtain ⟨a, c, rfl, hl, h⟩ := h
  refine ⟨a, c, rfl, hl, fun i r hi => ?_⟩
  obtain ⟨b, off, rfl, hc⟩ := h i r hi
  refine ⟨b, off, rfl, fun j u hu => ?_⟩
  have h1 := hc j u hu
  have h2 := hr r (List.mem_of_getElem? hi) u (List.mem_of_getElem? hu)
  by_cases hb : b = g
  · subst hb
    simp only [World.cell?, hx] at h1
    simp only [World.cell?, setRow_heap _ _ _ _ _ _ hx]
    simpa using hd _ _ (by simpa using h1) h2
  · rw [World.cell?_of_block (w := w) (setRow_other _ _ _ _ hb)]
    exact h1

/-- an error just where the document has one: so it is -/
theorem fits_same (o : Bool) (want : Int) (w : World) : Calls Tryz.prog 37 #[.int .i64 (if o then 0 else want), .bool o, .int .i64 want] w fun e w' => e = .returned (.bool true) ∧ Below w.heap.size w w' := by
  cases o with
  | true =>
    simp only [if_true]
    go_enter Tryz.func37, Tryz.ntmps37
    go_wp2
    go_ret
    exact ⟨rfl, Below.refl _ _⟩
  | false =>
    simp only [Bool.false_eq_true, if_false]
    go_enter Tryz.func37, Tryz.ntmps37
    go_wp2
    go_ret
    exact ⟨rfl, Below.refl _ _⟩

end Go.Proofs.YtajmkkjlhmeolaaGreatDoor
