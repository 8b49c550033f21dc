/-
  Clone, DeleteFunc, ContainsFunc at whatever slice of rules.
-/
import Derived.Test.YtnnfcbebjbfkoaaDoorCyDel2
namespace Go.Proofs.YtnnfcbebjbfkoaaDoor
open Go.RowKit

/-- the cells of some rules, one behind the other -/
def flat (l : List RuleV) : List Value := l.flatMap RuleV.cells
theorem flat_length (l : List RuleV) : (flat l).length = l.length * 6 := by
  induction l with
  | nil => rfl
  | cons r l ih => simp only [flat, List.flatMap_cons, List.length_append, List.length_cons] at *; rw [ih]; simp [RuleV.cells]; omega
theorem flat_get (l : List RuleV) : ∀ i r, l[i]? = some r → ∀ c, c < 6 → (flat l)[i * 6 + c]? = r.cells[c]? := by
  induction l with
  | nil => intro i r h; cases h
  | cons x l ih =>
    intro i r h c hc
    cases i with
    | zero =>
      simp at h; subst h
      simp only [flat, List.flatMap_cons]
      rw [List.getElem?_append_left (by simp [RuleV.cells]; omega)]
      congr 1; omega
    | succ i =>
      simp at h
      simp only [flat, List.flatMap_cons]
      rw [List.getElem?_append_right (by simp [RuleV.cells]; omega)]
      have := ih i r h c hc
      rw [← this, flat]
      congr 1
      simp [RuleV.cells]; omega
theorem flat_one (l : List RuleV) : ∀ u ∈ flat l, u.oneCell' = true := by
  intro u hu
  simp only [flat, List.mem_flatMap] at hu
  obtain ⟨r, _, hu⟩ := hu
  simp [RuleV.cells] at hu
  rcases hu with rfl | rfl | rfl | rfl | rfl | rfl <;> rfl

/-- the world's slice v holds the rules l -/
def RulesIn (w : World) (v : Value) (l : List RuleV) : Prop :=
  ∃ a c, v = .slice a l.length c ∧ l.length ≤ 2199023255552 ∧ (0 < l.length → ∃ b off, a = some ⟨b, off, none⟩ ∧ ∀ i r, l[i]? = some r → ∀ j u, r.cells[j]? = some u → w.cell? ⟨b, off + i * 6 + j, none⟩ = some u)

theorem RulesIn.later {w w' : World} {v : Value} {l : List RuleV} (h : RulesIn w v l) (hb : Below w.heap.size w w') : RulesIn w' v l := by
  obtain ⟨a, c, rfl, hl, h⟩ := h
  refine ⟨a, c, rfl, hl, fun hp => ?_⟩
  obtain ⟨b, off, rfl, hc⟩ := h hp
  exact ⟨b, off, rfl, fun i r hr j u hu => by
    have := hc i r hr j u hu
    rw [hb.cell (World.block_lt_of_cell? w _ this)]; exact this⟩

theorem RulesIn.of_own {w : World} {base : Nat} {v : Value} {l : List RuleV} (h : w.ownsRow base 34 6 v l.length (flat l)) (hl : l.length ≤ 2199023255552) : RulesIn w v l := by
  rcases h.2 with ⟨rfl, h0⟩ | ⟨g, cap, cur, rfl, hb, hg, hn, hm, hcs, ht⟩
  · exact ⟨none, 0, by rw [h0], hl, fun hp => by omega⟩
  · refine ⟨_, _, rfl, hl, fun _ => ⟨g, 0, rfl, fun i r hr j u hu => ?_⟩⟩
    have hj : j < 6 := by have := (List.getElem?_eq_some_iff.1 hu).1; simpa [RuleV.cells] using this
    have hi := (List.getElem?_eq_some_iff.1 hr).1
    have := flat_get l i r hr j hj
    rw [Nat.zero_add, cell_of_heap hg, ← hu, ← this, ← ht, List.getElem?_take, if_pos (by omega), Array.getElem?_toList]

set_option maxHeartbeats 400000 in
theorem index_empty (a : Option Addr) (c : Nat) (f : Value) (w : World) :
    Calls Tryd.prog 41 #[.slice a 0 c, f] w fun e w' => e = .returned (.int .i64 (-1)) ∧ w' = w := by
  go_enter Tryd.func41, Tryd.ntmps41
  go_wp2
  refine wp_loop_rounds 1 ?_
  rw [rounds_succ]
  go_wp2
  go_ret
  exact ⟨rfl, rfl⟩

set_option maxHeartbeats 400000 in
theorem contains_empty (a : Option Addr) (c : Nat) (f : Value) (w : World) :
    Calls Tryd.prog 27 #[.slice a 0 c, f] w fun e w' => e = .returned (.bool false) ∧ w' = w := by
  go_enter Tryd.func27, Tryd.ntmps27
  go_wp2_with (go_at_call 41; refine (index_empty _ _ _ _).mono ?_; rintro e w' ⟨rfl, rfl⟩)
  go_ret
  exact ⟨rfl, rfl⟩

set_option maxHeartbeats 400000 in
theorem delete_empty (a : Option Addr) (c : Nat) (f : Value) (w : World) :
    Calls Tryd.prog 23 #[.slice a 0 c, f] w fun e w' => e = .returned (.slice a 0 c) ∧ w' = w := by
  go_enter Tryd.func23, Tryd.ntmps23
  go_wp2_with (go_at_call 41; refine (index_empty _ _ _ _).mono ?_; rintro e w' ⟨rfl, rfl⟩)
  go_ret
  exact ⟨rfl, rfl⟩

theorem append_zero (w : World) (b : Addr) (a : Addr) (c : Nat) (i : TypeInfo) (hi : Tryd.prog.info? 34 = some i) :
    (Builtin.append_ #[26, 26] 26 #[.slice (some b) 0 0, .slice (some a) 0 c]).run Tryd.prog w = .ok (.slice (some b) 0 0) w := by
  simp [Builtin.append_, run_underlying Tryd.underlying26, sizeOf, typeInfo, hi, Builtin.lenOf, Builtin.firstCells, loadCells, loadCellsFrom, storeCells]

set_option maxHeartbeats 400000 in
theorem clone_zero (a : Addr) (c : Nat) (w : World) :
    Calls Tryd.prog 24 #[.slice (some a) 0 c] w fun e w' => e = .returned (.slice (some ⟨w.heap.size, 0, none⟩) 0 0) ∧ w' = w.alloc (.cells #[] 34) := by
  obtain ⟨i, hi⟩ : ∃ i, Tryd.prog.info? 34 = some i := Option.isSome_iff_exists.1 (by kernel_rfl)
  have hap := fun w b => append_zero w b a c i hi
  have hnil := fun w => Lib.run_eql_slice_nil (P := Tryd.prog) w 26 34 (some a) 0 c 0 0 Tryd.underlying26
  go_enter Tryd.func24, Tryd.ntmps24
  go_wp2
  go_ret
  exact ⟨rfl, rfl⟩

/-- slices.Clone at any slice of rules: in memory of its own -/
theorem clone_any (v : Value) (l : List RuleV) (w : World) (h : RulesIn w v l) :
    Calls Tryd.prog 24 #[v] w fun e w' => ∃ v', e = .returned v' ∧ w'.ownsRow w.heap.size 34 6 v' l.length (flat l) ∧ Below w.heap.size w w' := by
  obtain ⟨i0, hi, hz0, hz1, hz2⟩ := info_parts (show (Tryd.prog.info? 34).map (fun i => (i.zero, i.size, i.bytes)) = some (some (.agg #[.string ⟨#[]⟩, .string ⟨#[]⟩, .bool false, .int .i64 0, .int .i64 0, .int .i64 0]), 6, 64) by kernel_rfl)
  obtain ⟨a, c, rfl, hl, h⟩ := h
  by_cases h0 : l = []
  · subst h0
    cases a with
    | none =>
      refine (Tryd.slices_Clone_nil _ _ _).mono ?_
      rintro e w' ⟨rfl, rfl⟩
      exact ⟨_, rfl, World.ownsRow_nil _ _ _ _, Below.refl _ _⟩
    | some a =>
      refine (clone_zero _ _ _).mono ?_
      rintro e w' ⟨rfl, rfl⟩
      exact ⟨_, rfl, World.ownsRow_made w #[] 0 (Nat.le_refl _) (by simp [maxLen]) (by simp), (Below.refl _ _).alloc (Nat.le_refl _) _⟩
  · have hp : 0 < l.length := List.length_pos_iff.2 h0
    obtain ⟨b, off, rfl, hc⟩ := h hp
    refine (Tryd.slices_Clone i0 _ 6 64 hi hz0 hz1 hz2 (by simp [Value.cells]) (by omega) sizeOf_rule b off l.length c (flat l) w (flat_length l) (by simp only [maxLen]; omega) (by omega) ?_ (flat_one l)).mono ?_
    · intro j u hj
      have hlt : j < l.length * 6 := by rw [← flat_length]; exact (List.getElem?_eq_some_iff.1 hj).1
      have hi' : j / 6 < l.length := by omega
      have := flat_get l (j / 6) l[j / 6] (List.getElem?_eq_getElem hi') (j % 6) (by omega)
      rw [show j / 6 * 6 + j % 6 = j from by omega, hj] at this
      have := hc (j / 6) l[j / 6] (List.getElem?_eq_getElem hi') (j % 6) u this.symm
      rw [show off + j / 6 * 6 + j % 6 = off + j from by omega] at this
      exact this
    · rintro e w' ⟨v', rfl, ho, _, hb⟩
      exact ⟨v', rfl, ho, hb⟩

/-- slices.DeleteFunc over Due's first closure, at a slice of the call's own -/
theorem delete_any (q : RuleV → Bool) (zs : List RuleV) (base B kb : Nat) (v : Value) (w : World) (hz : zs.length ≤ 2199023255552) (hB : B ≤ base)
    (ho : w.ownsRow base 34 6 v zs.length (flat zs))
    (hp : ∀ W r, Below B w W → Calls Tryd.prog 25 #[r.val, .pointer (some ⟨kb, 0, none⟩)] W fun e W' => e = .returned (.bool (!q r)) ∧ Below W.heap.size W W') :
    Calls Tryd.prog 23 #[v, .func (.func 25) #[] #[.pointer (some ⟨kb, 0, none⟩)]] w
      fun e w' => ∃ v', e = .returned v' ∧ RulesIn w' v' (zs.filter q) ∧ Below B w w' := by
  rcases ho.2 with ⟨rfl, h0⟩ | ⟨g, cap, cur, rfl, hb, hg, hn, hm, hcs, ht⟩
  · obtain rfl := List.eq_nil_of_length_eq_zero h0
    refine (delete_empty _ _ _ _).mono ?_
    rintro e w' ⟨rfl, rfl⟩
    exact ⟨_, rfl, ⟨none, 0, rfl, by simp, fun h => by simp at h⟩, Below.refl _ _⟩
  · refine (del_walk q zs B g cap kb cur w hn (by simp only [maxLen] at hm; omega) (by omega) hg hcs (fun a r ha c hc => ?_) hp).mono ?_
    · have hi := (List.getElem?_eq_some_iff.1 ha).1
      rw [← flat_get zs a r ha c hc, ← ht, List.getElem?_take, if_pos (by omega), Array.getElem?_toList]
    · rintro e w' ⟨rfl, cur', hg', hs', hr', hb'⟩
      refine ⟨_, rfl, ⟨some ⟨g, 0, none⟩, cap, rfl, Nat.le_trans (List.length_filter_le _ _) hz, fun _ => ⟨g, 0, rfl, fun i r hi j u hu => ?_⟩⟩, hb'⟩
      have hj : j < 6 := by have := (List.getElem?_eq_some_iff.1 hu).1; simpa [RuleV.cells] using this
      rw [Nat.zero_add, cell_of_heap hg', hr' i r hi j hj, hu]

/-- slices.ContainsFunc at any slice of rules -/
theorem contains_any {α : Type} [Inhabited α] (of : α → RuleV) (v : Value) (l : List α) (p : α → Bool) (g : Nat) (lb : Array Value) (w : World) (h : RulesIn w v (l.map of))
    (eg : ∀ args w, (callFunc g args).run Tryd.prog w = .ok (.enter g args) w)
    (hp : ∀ W r, Below w.heap.size w W → Calls Tryd.prog g (#[(of r).val] ++ lb) W fun e W' => e = .returned (.bool (p r)) ∧ Below w.heap.size w W') :
    Calls Tryd.prog 27 #[v, .func (.func g) #[] lb] w fun e w' => e = .returned (.bool (l.any p)) ∧ Below w.heap.size w w' := by
  obtain ⟨a, c, rfl, hl, h⟩ := h
  rw [List.length_map] at *
  by_cases h0 : l = []
  · subst h0
    refine (contains_empty _ _ _ _).mono ?_
    rintro e w' ⟨rfl, rfl⟩
    exact ⟨rfl, Below.refl _ _⟩
  · have hp0 : 0 < l.length := List.length_pos_iff.2 h0
    obtain ⟨b, off, rfl, hc⟩ := h hp0
    have hb : b < w.heap.size := by
      have := hc 0 (of l[0]) (by simp [hp0]) 0 _ rfl
      exact World.block_lt_of_cell? w _ this
    refine (Tryd.slices_ContainsFunc 6 isAgg_rule sizeOf_rule (fun x => (of x).cells) (fun _ => rfl) p g lb eg b off l.length c l w (fun W x hW => hp W x hW) (Nat.le_refl _) (by omega) hb ?_).mono ?_
    · intro j hj i v hv
      exact hc j (of l[j]!) (by simp [hj, getElem!_pos]) i v hv
    · rintro e w' ⟨rfl, hb'⟩
      rw [List.take_of_length_le (Nat.le_refl _)]
      exact ⟨rfl, hb'⟩

end Go.Proofs.YtnnfcbebjbfkoaaDoor
