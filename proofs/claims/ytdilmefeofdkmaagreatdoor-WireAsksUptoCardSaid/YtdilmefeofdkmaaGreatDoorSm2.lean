/-
  SEVERAL SMALL TEXTS IN ONE.
-/
import Derived.Test.YtdilmefeofdkmaaGreatDoorSm0
import Derived.Deep.RegionHeld3
import Derived.Test.YtdilmefeofdkmaaGreatDoorWiRd
import Derived.Test.YtdilmefeofdkmaaGreatDoorShelf
import Derived.Deep.DeepCutAuto
import Derived.Deep.CutBlock
import Derived.Laws.BytesArg
import Derived.Laws.EntriesVeiled
/-
  A region that draws its order and ends with ONE operation that waits for all others (a store of what was read and made): behind that last one the condition S need not hold. (After the kit's OrdersHeld.)
-/
namespace Go.Proofs.YtdilmefeofdkmaaGreatDoor
open Go.RowKit

section
variable {P : Program} {ops : Array Oper} {Q : Exit → Act → World → Prop} {md : Region.Mode} {S : World → Prop} {last : Nat}

def wpAnyL (P : Program) (md : Region.Mode) (ops : Array Oper) (Q : Exit → Act → World → Prop) (S : World → Prop) (last : Nat) : Nat → Array Bool → Act → World → Prop
  | 0, listed, a, w => Region.ready md ops listed = [] ∧ Q .normal a w
  | fuel + 1, listed, a, w =>
    (Region.ready md ops listed = [] → Q .normal a w) ∧
    ∀ i ∈ Region.ready md ops listed, wpOp P ops Q i (fun a' w' => (i = last ∨ S w') ∧ wpAnyL P md ops Q S last fuel (listed.setIfInBounds i true) a' w') a w

theorem wpAny_of_heldL : ∀ (fuel : Nat) (listed : Array Bool) (a : Act) (w : World), wpAnyL P md ops Q S last fuel listed a w → wpAny P md ops Q fuel listed a w
  | 0, _, _, _, h => h
  | fuel + 1, _, _, _, h => ⟨h.1, fun i hi => wpOp_mono (fun a' w' h' => wpAny_of_heldL fuel _ a' w' h'.2) (h.2 i hi)⟩

theorem wpAnyL_first {i : Nat} {oi : Oper} {v : Value} (hi : ops[i]? = some oi) (hsel : ∀ (j : Nat) (o : Oper) cs b, ops[j]? = some o → o.op ≠ .select cs b)
    (hQ : ∀ c a w, Q (.panic c) (a.put oi.dst v) w → Q (.panic c) a w) (hil : i ≠ last) (hwait : ∀ ol, ops[last]? = some ol → ∃ e ∈ ol.after, Region.binds md e = true ∧ e.on = i) :
    ∀ (fuel : Nat) (listed : Array Bool) (a : Act) (w : World),
      (∀ j oj, ops[j]? = some oj → j ≠ i → listed.getD j true = false → (∀ e ∈ oj.after, Region.binds md e = true → e.on ≠ i) → oi.apart ops oj = true) →
      i ∈ Region.ready md ops listed → YieldsIf P ops S oi v a → S w →
      wpAnyL P md ops Q S last fuel (listed.setIfInBounds i true) (a.put oi.dst v) w → wpAnyL P md ops Q S last (fuel + 1) listed a w := by
  intro fuel
  induction fuel with
  | zero =>
    intro listed a w _ hr hy hS H
    refine ⟨fun h => (by rw [h] at hr; cases hr), fun j hj => ?_⟩
    by_cases hji : j = i
    · subst hji; exact hy.wpOp hi hS ⟨.inr hS, H⟩
    · have := ready_mono hj hji
      rw [H.1] at this
      cases this
  | succ fuel ih =>
    intro listed a w hfree hr hy hS H
    refine ⟨fun h => (by rw [h] at hr; cases hr), fun j hj => ?_⟩
    by_cases hji : j = i
    · subst hji; exact hy.wpOp hi hS ⟨.inr hS, H⟩
    · have h1 := H.2 j (ready_mono hj hji)
      obtain ⟨hjun, oj, hoj, hall⟩ := mem_ready.1 hj
      have hnot : ∀ e ∈ oj.after, Region.binds md e = true → e.on ≠ i := fun e he hb heq => by
        have h1 := hall e he hb
        have h0 := (mem_ready.1 hr).1
        rw [heq] at h1
        rcases Nat.lt_or_ge i listed.size with h' | h'
        · simp [h'] at h0 h1; rw [h0] at h1; cases h1
        · simp [Array.getElem?_eq_none h'] at h1
      have hjl : j ≠ last := fun e => by
        subst e
        obtain ⟨e, he, hb, hon⟩ := hwait oj hoj
        exact hnot e he hb hon
      have h2 := wpOp_putIf hoj (hfree j oj hoj hji hjun hnot) (fun cs b => hsel i oi cs b hi) (fun cs b => hsel j oj cs b hoj) hQ hy h1
      have hfree' : ∀ k ok, ops[k]? = some ok → k ≠ i → (listed.setIfInBounds j true).getD k true = false →
          (∀ e ∈ ok.after, Region.binds md e = true → e.on ≠ i) → oi.apart ops ok = true := fun k ok hk hki hun hno => by
        refine hfree k ok hk hki ?_ hno
        by_cases hjk : j = k
        · subst hjk; exact hjun
        · rw [getD_set_ne true hjk] at hun; exact hun
      refine wpOp_mono (fun a' w' h3 => ?_) h2
      have hSw : S w' := h3.2.1.resolve_left hjl
      refine ⟨.inr hSw, ih (listed.setIfInBounds j true) a' w' hfree' (ready_mono hr (Ne.symm hji)) h3.1 hSw ?_⟩
      rw [Array.setIfInBounds_comm _ _ hji]
      exact h3.2.2

/-- does the last one wait for number 'i'? -/
def lastWaits (md : Region.Mode) (ops : Array Oper) (last i : Nat) : Bool :=
  (i != last) && match ops[last]? with
    | some ol => ol.after.any (fun e => Region.binds md e && e.on == i)
    | none => true
theorem wpAnyL_take {i : Nat} {oi : Oper} {v : Value} {fuel : Nat} {listed : Array Bool} {a : Act} {w : World} (hi : ops[i]? = some oi)
    (hs : Region.noSelect ops = true) (hf : Region.free md ops listed i = true) (hr : (Region.ready md ops listed).contains i = true) (hw : lastWaits md ops last i = true)
    (hQ : ∀ c a w, Q (.panic c) (a.put oi.dst v) w → Q (.panic c) a w) (hy : YieldsIf P ops S oi v a) (hS : S w)
    (h : wpAnyL P md ops Q S last fuel (listed.setIfInBounds i true) (a.put oi.dst v) w) : wpAnyL P md ops Q S last (fuel + 1) listed a w := by
  unfold lastWaits at hw
  simp only [Bool.and_eq_true, bne_iff_ne] at hw
  refine wpAnyL_first hi (Region.noSelect_spec hs) hQ hw.1 (fun ol hol => ?_) fuel listed a w (Region.free_spec hi hf) (by simpa using hr) hy hS h
  have h2 := hw.2
  rw [hol] at h2
  simp only [Array.any_eq_true] at h2
  obtain ⟨k, hk, h3⟩ := h2
  simp only [Bool.and_eq_true, beq_iff_eq] at h3
  exact ⟨_, Array.getElem_mem hk, h3.1, h3.2⟩

def AllReadyL (P : Program) (md : Region.Mode) (ops : Array Oper) (Q : Exit → Act → World → Prop) (S : World → Prop) (last fuel : Nat) (listed : Array Bool) (a : Act) (w : World) (rs : List Nat) : Prop :=
  ∀ i ∈ rs, wpOp P ops Q i (fun a' w' => (i = last ∨ S w') ∧ wpAnyL P md ops Q S last fuel (listed.setIfInBounds i true) a' w') a w
theorem AllReadyL.nil {fuel : Nat} {listed : Array Bool} {a : Act} {w : World} : AllReadyL P md ops Q S last fuel listed a w [] := fun _ h => by cases h
theorem AllReadyL.cons {fuel : Nat} {listed : Array Bool} {a : Act} {w : World} {i : Nat} {o : Oper} {rs : List Nat} (ho : ops[i]? = some o)
    (h : ∀ K' : Act → World → Prop, Shut (∀ a w, S w → (S w → wpAnyL P md ops Q S last fuel (listed.setIfInBounds i true) a w) → K' a w) → if Region.wanted o (yielded ops a.tmps) = true then Oper.wp P o a w K' Q else K' (a.put o.dst undef) w)
    (hs : AllReadyL P md ops Q S last fuel listed a w rs) : AllReadyL P md ops Q S last fuel listed a w (i :: rs) := fun j hj => by
  rcases List.mem_cons.1 hj with rfl | hj
  · exact wpOp_step ho (fun K' hK => h K' (fun a w hS hW => hK a w ⟨.inr hS, hW hS⟩))
  · exact hs j hj
/-- the last one -/
theorem AllReadyL.final {fuel : Nat} {listed : Array Bool} {a : Act} {w : World} {o : Oper} (ho : ops[last]? = some o)
    (h : ∀ K' : Act → World → Prop, Shut (∀ a w, wpAnyL P md ops Q S last fuel (listed.setIfInBounds last true) a w → K' a w) → if Region.wanted o (yielded ops a.tmps) = true then Oper.wp P o a w K' Q else K' (a.put o.dst undef) w) :
    AllReadyL P md ops Q S last fuel listed a w [last] := fun j hj => by
  obtain rfl : j = last := by simpa using hj
  exact wpOp_step ho (fun K' hK => h K' (fun a w hW => hK a w ⟨.inl rfl, hW⟩))
theorem wpAnyL_ready {rs : List Nat} {fuel : Nat} {listed : Array Bool} {a : Act} {w : World} (hr : Region.ready md ops listed = rs) (hne : rs ≠ [])
    (h : AllReadyL P md ops Q S last fuel listed a w rs) : wpAnyL P md ops Q S last (fuel + 1) listed a w := ⟨fun h0 => absurd (hr ▸ h0) hne, hr ▸ h⟩
theorem wpAnyL_done {listed : Array Bool} {a : Act} {w : World} (hr : Region.ready md ops listed = []) (h : Q .normal a w) :
    ∀ fuel, wpAnyL P md ops Q S last fuel listed a w
  | 0 => ⟨hr, h⟩
  | _ + 1 => ⟨fun _ => h, by rw [hr]; simp⟩
theorem wp_region_heldL_drew {id : Nat} {a : Act} {w : World} (last : Nat) (hm : P.follows .mixedOrders = true) (hS : S w.drew)
    (h : S w.drew → wpAnyL P .any ops Q S last ops.size (Array.replicate ops.size false) a w.drew) : (Code.region id ops true).wp P Q a w :=
  wp_region_any hm (wpAny_of_heldL _ _ _ _ (h hS))
end

end Go.Proofs.YtdilmefeofdkmaaGreatDoor

/-
  WIRE: the small methods of a Reader: fail, counts, ended, begin. (Printed by wip/gen/wibegin.py.)
-/
namespace Go.Proofs.YtdilmefeofdkmaaGreatDoor
open Go.RowKit

set_option maxHeartbeats 1000000 in
set_option maxRecDepth 100000 in
theorem fail_any {w : World} {rd : Nat} {ms : Own} {s : RS} {out : List ReqV} (h : RdrAt w rd ms s out) (e : Int) :
    Calls Tryz.prog 79 #[.pointer (some ⟨rd, 0, none⟩), .int .i64 e] w fun x w' => x = .returned (.tuple #[]) ∧ RdPost w rd ms (s.fail e) out w' := by
  obtain ⟨vo, vl, vf, vb, hI⟩ := h
  have HI := Lib.hid hI
  have q1 : w.cell? ⟨rd, 1, none⟩ = some (.int .i64 s.fault) := cell_of_heap hI.box
  have q2 : w.cell? ⟨rd, 2, none⟩ = some (.bool s.done) := cell_of_heap hI.box
  have f1 : w.frozen? ⟨rd, 1, none⟩ = false := free_of_heap hI.box
  have f2 : w.frozen? ⟨rd, 2, none⟩ = false := free_of_heap hI.box
  clear hI
  go_enter Tryz.func79, Tryz.ntmps79
  go_wp2_with fail
  go_end0
  have h1 := HI.out.set 1 (.int .i64 e) { s with fault := e } rfl rfl rfl rfl
  have h2 := h1.set 2 (.bool true) (s.fail e) rfl rfl rfl rfl
  exact ⟨rfl, ms, ⟨_, _, _, _, h2⟩, (HI.out.mvSet 1 _).trans (h1.mvSet 2 _)⟩

set_option maxHeartbeats 1000000 in
set_option maxRecDepth 100000 in
theorem counts_any {w : World} {rd : Nat} {ms : Own} {s : RS} {out : List ReqV} (h : RdrAt w rd ms s out) (h0 : 0 ≤ s.head) (h1 : s.head ≤ 8000) :
    Calls Tryz.prog 75 #[.pointer (some ⟨rd, 0, none⟩)] w fun x w' => x = .returned (.bool (decide (s.head + 1 ≤ 8000))) ∧ RdPost w rd ms s.counts out w' := by
  obtain ⟨vo, vl, vf, vb, hI⟩ := h
  have HI := Lib.hid hI
  have q1 : w.cell? ⟨rd, 5, none⟩ = some (.int .i64 s.head) := cell_of_heap hI.box
  have f1 : w.frozen? ⟨rd, 5, none⟩ = false := free_of_heap hI.box
  have k1 := hI.set 5 (.int .i64 (s.head + 1)) { s with head := s.head + 1 } rfl rfl rfl rfl
  have K1 := Lib.hid k1
  have M1 := Lib.hid (hI.mvSet 5 (.int .i64 (s.head + 1)))
  have HF := Lib.hid (fail_any ⟨_, _, _, _, k1⟩ 67)
  clear hI k1
  go_enter Tryz.func75, Tryz.ntmps75
  by_cases hc : 8000 < s.head + 1
  · go_wp2_with fail
    refine HF.out.mono ?_
    rintro e w2 ⟨rfl, ms2, r2, m2⟩
    go_wp2_with fail
    go_ret
    refine ⟨by rw [decide_eq_false (by omega)]; rfl, ms2, ?_, M1.out.trans m2⟩
    unfold RS.counts; rw [if_pos hc]; exact r2
  · go_wp2_with fail
    go_ret
    refine ⟨rfl, ms, ?_, M1.out⟩
    unfold RS.counts; rw [if_neg (by omega)]; exact ⟨_, _, _, _, K1.out⟩

/-- bytes of a row as a text -/
theorem conv_row {w : World} {v : Value} {l : List UInt8} (h : w.ownsRow 0 5 1 v l.length (Lib.byteCells l)) : (convert 41 9 v).run Tryz.prog w = .ok (.string ⟨l.toArray⟩) w := by
  rcases h.2 with ⟨rfl, hn⟩ | ⟨g, cap, cur, rfl, _⟩
  · have : l = [] := List.eq_nil_of_length_eq_zero hn
    subst this
    exact run_convert_bytes_nil w _ _ Tryz.underlying41 Tryz.underlying5 0 0 _ Tryz.underlying9
  · refine run_convert_bytes_back w _ _ 5 ⟨g, 0, none⟩ cap l Tryz.underlying41 Tryz.underlying5 Tryz.underlying9 fun j hj => ?_
    exact h.cells (g := g) rfl j (.int .u8 l[j].toNat) (by simp [Lib.byteCells, hj])

theorem isSuffix_cr (l : List UInt8) : (if [13].isSuffixOf l = true then l.take (l.length - 1) else l) = trimCR l := by
  rcases List.eq_nil_or_concat l with rfl | ⟨k, b, rfl⟩
  · rfl
  · unfold trimCR
    by_cases hb : b = 13
    · subst hb; simp
    · simp [hb, List.isSuffixOf, List.isPrefixOf]; exact fun h => absurd h.symm hb

set_option maxHeartbeats 2000000 in
set_option maxRecDepth 100000 in
theorem begin_any {w : World} {rd : Nat} {ms : Own} {s : RS} {out : List ReqV} {vo vl vf vb : Value} (h : RdrO w rd ms s out vo vl vf vb) :
    Calls Tryz.prog 33 #[.pointer (some ⟨rd, 0, none⟩)] w fun x w' => x = .returned (.tuple #[]) ∧ RdPost w rd ms s.begin out w' := by
  obtain ⟨ao, co, rfl⟩ : ∃ a c, vo = .slice a out.length c := by
    obtain ⟨xs, ok, h1, _⟩ := h.outs
    exact row_form h1
  have HO := Lib.hid h
  have hB := h.box
  clear h
  go_enter Tryz.func33, Tryz.ntmps33
  go_upto_region 0 with (fail)
  refine wp_region_heldL_drew (S := (fun W : World => W.heap[rd]? = some (.cells (s.cells rd (.slice ao out.length co) vl vf vb) 67 (0, 0)))) 15 (by kernel_rfl) hB (fun hS0 => ?_)
  refine wpAnyL_take (i := 0) (oi := { dst := some 2, op := _, type := _, pos := _, after := _, guard := _ }) (v := ?_) rfl (by kernel_rfl) (by kernel_rfl) (by kernel_rfl) (by kernel_rfl) (fun _ _ _ h => h) (Or.inl ⟨by kernel_rfl, ?_⟩) (by assumption) ?_
  rotate_left
  · (intro w hSw; (try dsimp only at hSw); go_simp); all_goals (with_reducible rfl)
  try simp only [Act.put, List.setIfInBounds_toArray, List.set_cons_zero, List.set_cons_succ]
  refine wpAnyL_take (i := 1) (oi := { dst := some 3, op := _, type := _, pos := _, after := _, guard := _ }) (v := ?_) rfl (by kernel_rfl) (by kernel_rfl) (by kernel_rfl) (by kernel_rfl) (fun _ _ _ h => h) (Or.inl ⟨by kernel_rfl, ?_⟩) (by assumption) ?_
  rotate_left
  · (intro w hSw; (try dsimp only at hSw); go_simp); all_goals (with_reducible rfl)
  try simp only [Act.put, List.setIfInBounds_toArray, List.set_cons_zero, List.set_cons_succ]
  refine wpAnyL_take (i := 2) (oi := { dst := some 4, op := _, type := _, pos := _, after := _, guard := _ }) (v := ?_) rfl (by kernel_rfl) (by kernel_rfl) (by kernel_rfl) (by kernel_rfl) (fun _ _ _ h => h) (Or.inl ⟨by kernel_rfl, ?_⟩) (by assumption) ?_
  rotate_left
  · (intro w hSw; (try dsimp only at hSw); go_simp); all_goals (with_reducible rfl)
  try simp only [Act.put, List.setIfInBounds_toArray, List.set_cons_zero, List.set_cons_succ]
  refine wpAnyL_take (i := 3) (oi := { dst := some 5, op := _, type := _, pos := _, after := _, guard := _ }) (v := ?_) rfl (by kernel_rfl) (by kernel_rfl) (by kernel_rfl) (by kernel_rfl) (fun _ _ _ h => h) (Or.inl ⟨by kernel_rfl, ?_⟩) (by assumption) ?_
  rotate_left
  · (intro w hSw; (try dsimp only at hSw); go_simp); all_goals (with_reducible rfl)
  try simp only [Act.put, List.setIfInBounds_toArray, List.set_cons_zero, List.set_cons_succ]
  refine wpAnyL_take (i := 4) (oi := { dst := some 6, op := _, type := _, pos := _, after := _, guard := _ }) (v := ?_) rfl (by kernel_rfl) (by kernel_rfl) (by kernel_rfl) (by kernel_rfl) (fun _ _ _ h => h) (Or.inl ⟨by kernel_rfl, ?_⟩) (by assumption) ?_
  rotate_left
  · (intro w hSw; (try dsimp only at hSw); (have h1 := cell_of_heap (x := 1) hSw); (have h2 := cell_of_heap (x := 2) hSw); (have h3 := cell_of_heap (x := 3) hSw); (simp only [RS.cells] at h1 h2 h3); go_simp); all_goals (with_reducible rfl)
  try simp only [Act.put, List.setIfInBounds_toArray, List.set_cons_zero, List.set_cons_succ]
  refine wpAnyL_take (i := 5) (oi := { dst := some 7, op := _, type := _, pos := _, after := _, guard := _ }) (v := ?_) rfl (by kernel_rfl) (by kernel_rfl) (by kernel_rfl) (by kernel_rfl) (fun _ _ _ h => h) (Or.inl ⟨by kernel_rfl, ?_⟩) (by assumption) ?_
  rotate_left
  · (intro w hSw; (try dsimp only at hSw); go_simp); all_goals (with_reducible rfl)
  try simp only [Act.put, List.setIfInBounds_toArray, List.set_cons_zero, List.set_cons_succ]
  refine wpAnyL_take (i := 6) (oi := { dst := some 8, op := _, type := _, pos := _, after := _, guard := _ }) (v := ?_) rfl (by kernel_rfl) (by kernel_rfl) (by kernel_rfl) (by kernel_rfl) (fun _ _ _ h => h) (Or.inl ⟨by kernel_rfl, ?_⟩) (by assumption) ?_
  rotate_left
  · (intro w hSw; (try dsimp only at hSw); go_simp); all_goals (with_reducible rfl)
  try simp only [Act.put, List.setIfInBounds_toArray, List.set_cons_zero, List.set_cons_succ]
  refine wpAnyL_take (i := 7) (oi := { dst := some 9, op := _, type := _, pos := _, after := _, guard := _ }) (v := ?_) rfl (by kernel_rfl) (by kernel_rfl) (by kernel_rfl) (by kernel_rfl) (fun _ _ _ h => h) (Or.inl ⟨by kernel_rfl, ?_⟩) (by assumption) ?_
  rotate_left
  · (intro w hSw; (try dsimp only at hSw); go_simp); all_goals (with_reducible rfl)
  try simp only [Act.put, List.setIfInBounds_toArray, List.set_cons_zero, List.set_cons_succ]
  refine wpAnyL_take (i := 8) (oi := { dst := some 10, op := _, type := _, pos := _, after := _, guard := _ }) (v := ?_) rfl (by kernel_rfl) (by kernel_rfl) (by kernel_rfl) (by kernel_rfl) (fun _ _ _ h => h) (Or.inl ⟨by kernel_rfl, ?_⟩) (by assumption) ?_
  rotate_left
  · (intro w hSw; (try dsimp only at hSw); (have h1 := cell_of_heap (x := 1) hSw); (have h2 := cell_of_heap (x := 2) hSw); (have h3 := cell_of_heap (x := 3) hSw); (simp only [RS.cells] at h1 h2 h3); go_simp); all_goals (with_reducible rfl)
  try simp only [Act.put, List.setIfInBounds_toArray, List.set_cons_zero, List.set_cons_succ]
  refine wpAnyL_take (i := 9) (oi := { dst := some 11, op := _, type := _, pos := _, after := _, guard := _ }) (v := ?_) rfl (by kernel_rfl) (by kernel_rfl) (by kernel_rfl) (by kernel_rfl) (fun _ _ _ h => h) (Or.inl ⟨by kernel_rfl, ?_⟩) (by assumption) ?_
  rotate_left
  · (intro w hSw; (try dsimp only at hSw); go_simp); all_goals (with_reducible rfl)
  try simp only [Act.put, List.setIfInBounds_toArray, List.set_cons_zero, List.set_cons_succ]
  refine wpAnyL_take (i := 10) (oi := { dst := some 12, op := _, type := _, pos := _, after := _, guard := _ }) (v := ?_) rfl (by kernel_rfl) (by kernel_rfl) (by kernel_rfl) (by kernel_rfl) (fun _ _ _ h => h) (Or.inl ⟨by kernel_rfl, ?_⟩) (by assumption) ?_
  rotate_left
  · (intro w hSw; (try dsimp only at hSw); go_simp); all_goals (with_reducible rfl)
  try simp only [Act.put, List.setIfInBounds_toArray, List.set_cons_zero, List.set_cons_succ]
  refine wpAnyL_take (i := 11) (oi := { dst := some 13, op := _, type := _, pos := _, after := _, guard := _ }) (v := ?_) rfl (by kernel_rfl) (by kernel_rfl) (by kernel_rfl) (by kernel_rfl) (fun _ _ _ h => h) (Or.inl ⟨by kernel_rfl, ?_⟩) (by assumption) ?_
  rotate_left
  · (intro w hSw; (try dsimp only at hSw); go_simp); all_goals (with_reducible rfl)
  try simp only [Act.put, List.setIfInBounds_toArray, List.set_cons_zero, List.set_cons_succ]
  refine wpAnyL_take (i := 12) (oi := { dst := some 14, op := _, type := _, pos := _, after := _, guard := _ }) (v := ?_) rfl (by kernel_rfl) (by kernel_rfl) (by kernel_rfl) (by kernel_rfl) (fun _ _ _ h => h) (Or.inl ⟨by kernel_rfl, ?_⟩) (by assumption) ?_
  rotate_left
  · (intro w hSw; (try dsimp only at hSw); (have h1 := cell_of_heap (x := 1) hSw); (have h2 := cell_of_heap (x := 2) hSw); (have h3 := cell_of_heap (x := 3) hSw); (simp only [RS.cells] at h1 h2 h3); go_simp); all_goals (with_reducible rfl)
  try simp only [Act.put, List.setIfInBounds_toArray, List.set_cons_zero, List.set_cons_succ]
  refine wpAnyL_take (i := 13) (oi := { dst := some 15, op := _, type := _, pos := _, after := _, guard := _ }) (v := ?_) rfl (by kernel_rfl) (by kernel_rfl) (by kernel_rfl) (by kernel_rfl) (fun _ _ _ h => h) (Or.inl ⟨by kernel_rfl, ?_⟩) (by assumption) ?_
  rotate_left
  · (intro w hSw; (try dsimp only at hSw); go_simp); all_goals (with_reducible rfl)
  try simp only [Act.put, List.setIfInBounds_toArray, List.set_cons_zero, List.set_cons_succ]
  refine wpAnyL_take (i := 14) (oi := { dst := some 16, op := _, type := _, pos := _, after := _, guard := _ }) (v := ?_) rfl (by kernel_rfl) (by kernel_rfl) (by kernel_rfl) (by kernel_rfl) (fun _ _ _ h => h) (Or.inl ⟨by kernel_rfl, ?_⟩) (by assumption) ?_
  rotate_left
  · (intro w hSw; (try dsimp only at hSw); go_simp); all_goals (with_reducible rfl)
  try simp only [Act.put, List.setIfInBounds_toArray, List.set_cons_zero, List.set_cons_succ]
  refine wpAnyL_ready (rs := [15]) (by kernel_rfl) (by simp) ?_
  refine (AllReadyL.final (o := { dst := none, op := _, type := _, pos := _, after := _, guard := _ }) rfl (fun K hK => ?_))
  rw [if_pos (by kernel_rfl)]
  refine wp_store_row 67 _ _ (by rfl) _ #[.nilFunc, .int .i64 s.fault, .bool s.done, (.slice ao out.length co), .slice none 0 0, .int .i64 0, .int .i64 0, .int .i64 0, .string ⟨#[]⟩, .string ⟨#[]⟩, .int .i64 0, .slice none 0 0, .string ⟨#[]⟩, .bool false, .slice none 0 0, .int .i64 0] (by rfl) (by rfl) 67 (s.cells rd (.slice ao out.length co) vl vf vb) (by assumption) (by kernel_rfl) (by kernel_rfl) (by kernel_rfl) ?_
  refine hK.out _ _ ?_
  clear hK K
  try simp only [Act.put]
  refine wpAnyL_done (by kernel_rfl) ?_ _
  have hN : (w.drew.setRow rd #[.nilFunc, .int .i64 s.fault, .bool s.done, (.slice ao out.length co), .slice none 0 0, .int .i64 0, .int .i64 0, .int .i64 0, .string ⟨#[]⟩, .string ⟨#[]⟩, .int .i64 0, .slice none 0 0, .string ⟨#[]⟩, .bool false, .slice none 0 0, .int .i64 0]).heap[rd]? = some (.cells #[.nilFunc, .int .i64 s.fault, .bool s.done, (.slice ao out.length co), .slice none 0 0, .int .i64 0, .int .i64 0, .int .i64 0, .string ⟨#[]⟩, .string ⟨#[]⟩, .int .i64 0, .slice none 0 0, .string ⟨#[]⟩, .bool false, .slice none 0 0, .int .i64 0] 67 (0, 0)) := setRow_heap _ _ _ _ _ _ hS0
  have f0 : (w.drew.setRow rd #[.nilFunc, .int .i64 s.fault, .bool s.done, (.slice ao out.length co), .slice none 0 0, .int .i64 0, .int .i64 0, .int .i64 0, .string ⟨#[]⟩, .string ⟨#[]⟩, .int .i64 0, .slice none 0 0, .string ⟨#[]⟩, .bool false, .slice none 0 0, .int .i64 0]).frozen? ⟨rd, 0, none⟩ = false := free_of_heap hN
  have q0 : (w.drew.setRow rd #[.nilFunc, .int .i64 s.fault, .bool s.done, (.slice ao out.length co), .slice none 0 0, .int .i64 0, .int .i64 0, .int .i64 0, .string ⟨#[]⟩, .string ⟨#[]⟩, .int .i64 0, .slice none 0 0, .string ⟨#[]⟩, .bool false, .slice none 0 0, .int .i64 0]).cell? ⟨rd, 0, none⟩ = some .nilFunc := cell_of_heap hN
  have hC : Chg w (w.drew.setRow rd #[.nilFunc, .int .i64 s.fault, .bool s.done, (.slice ao out.length co), .slice none 0 0, .int .i64 0, .int .i64 0, .int .i64 0, .string ⟨#[]⟩, .string ⟨#[]⟩, .int .i64 0, .slice none 0 0, .string ⟨#[]⟩, .bool false, .slice none 0 0, .int .i64 0]) (fun b => b = rd) := ⟨rfl, rfl, rfl, by simp [World.setRow], fun k _ hk => setRow_other _ _ _ _ hk⟩
  generalize (w.drew.setRow rd #[.nilFunc, .int .i64 s.fault, .bool s.done, (.slice ao out.length co), .slice none 0 0, .int .i64 0, .int .i64 0, .int .i64 0, .string ⟨#[]⟩, .string ⟨#[]⟩, .int .i64 0, .slice none 0 0, .string ⟨#[]⟩, .bool false, .slice none 0 0, .int .i64 0]) = w1 at hN f0 q0 hC ⊢
  have HN := Lib.hid hN
  have HC := Lib.hid hC
  clear hN hC hS0
  go_wp2_with fail

  go_end0
  have hc := HC.out.trans (Chg.set w1 ⟨rd, 0, none⟩ (nextV rd .first))
  refine ⟨rfl, ms, ⟨_, _, _, _, HO.out.reset (by show (w1.setCell ⟨rd, 0, none⟩ (nextV rd .first)).heap[rd]? = _; rw [heap_set HN.out]; rfl) hc⟩, hc.mono (fun b _ e => by rw [e]; exact HO.out.rdM), fun _ x => .inl x, rfl⟩

end Go.Proofs.YtdilmefeofdkmaaGreatDoor

/-
  WIRE: ended; a byte behind the line, or the body: chunkLine, chunkEnd, chunk.
-/
namespace Go.Proofs.YtdilmefeofdkmaaGreatDoor
open Go.RowKit

theorem trimSuffix_cr (l : List UInt8) : Lib.trimSuffix l [13] = trimCR l := by
  rcases List.eq_nil_or_concat l with rfl | ⟨k, b, rfl⟩
  · rfl
  · unfold trimCR Lib.trimSuffix Lib.hasSuffix
    by_cases hb : b = 13
    · subst hb; simp
    · simp [hb]
      exact fun h => absurd h.symm hb

theorem info_pair : ∃ i, Tryz.prog.info? 58 = some i ∧ i.zero = some (.agg #[.string ⟨#[]⟩, .string ⟨#[]⟩]) ∧ i.size = 2 ∧ i.bytes = 32 :=
  info_parts (show (Tryz.prog.info? 58).map (fun i => (i.zero, i.size, i.bytes)) = some (some (.agg #[.string ⟨#[]⟩, .string ⟨#[]⟩]), 2, 32) by kernel_rfl)
theorem info_byte : ∃ i, Tryz.prog.info? 5 = some i ∧ i.zero = some (.int .u8 0) ∧ i.size = 1 ∧ i.bytes = 1 :=
  info_parts (show (Tryz.prog.info? 5).map (fun i => (i.zero, i.size, i.bytes)) = some (some (.int .u8 0), 1, 1) by kernel_rfl)

theorem trimCR_len (l : List UInt8) : (trimCR l).length ≤ l.length := by
  unfold trimCR
  split <;> simp

set_option maxHeartbeats 1000000 in
set_option maxRecDepth 100000 in
theorem ended_any {w : World} {rd : Nat} {ms : Own} {s : RS} {out : List ReqV} (h : RdrAt w rd ms s out) (hl : s.line.length ≤ 140737488351232) :
    Calls Tryz.prog 76 #[.pointer (some ⟨rd, 0, none⟩)] w fun x w' => x = .returned (.string ⟨(trimCR s.line).toArray⟩) ∧ RdPost w rd ms { s with line := [] } out w' := by
  obtain ⟨vo, vl, vf, vb, hI⟩ := h
  obtain ⟨a, c, rfl⟩ := row_form hI.line
  have HI := Lib.hid hI
  have q4 : w.cell? ⟨rd, 4, none⟩ = some (.slice a s.line.length c) := cell_of_heap hI.box
  have f4 : w.frozen? ⟨rd, 4, none⟩ = false := free_of_heap hI.box
  have hcv := conv_row hI.line
  have HT : Hid (∀ W, Calls Tryz.prog 94 #[.string ⟨s.line.toArray⟩, .string ⟨#[13]⟩] W fun e w' => e = .returned (.string ⟨(trimCR s.line).toArray⟩) ∧ w' = W) := fun W => by
    have := Tryz.strings_TrimSuffix ⟨s.line.toArray⟩ ⟨#[13]⟩ W (by simp [ByteArray.size]; omega)
    rwa [show Lib.trimSuffix (⟨s.line.toArray⟩ : ByteArray).data.toList (⟨#[13]⟩ : ByteArray).data.toList = trimCR s.line from trimSuffix_cr _] at this
  have hsl : (Instr.sliceAt 41 (.slice a s.line.length c) none (some (.int .i64 0)) none).run Tryz.prog w = .ok (.slice a 0 c) w := by
    go_simp
  clear hI
  go_enter Tryz.func76, Tryz.ntmps76
  go_wp2_with fail
  refine (HT.out _).mono ?_
  rintro e w2 ⟨rfl, rfl⟩
  go_wp2_with fail
  go_ret
  exact ⟨rfl, ms, ⟨_, _, _, _, HI.out.line0⟩, HI.out.mvSet 4 _⟩

/-- an append onto the line or the body wants but a bound -/
theorem byte_cell (b : UInt8) : ((Value.int .u8 (b.toNat : Int)).oneCell' = true) := rfl

set_option maxHeartbeats 1000000 in
set_option maxRecDepth 100000 in
theorem chunkLine_any {w : World} {rd : Nat} {ms : Own} {s : RS} {out : List ReqV} (h : RdrAt w rd ms s out) (b : UInt8) (hl : s.line.length ≤ 1000000000) :
    Calls Tryz.prog 130 #[.pointer (some ⟨rd, 0, none⟩), .int .u8 b.toNat] w fun x w' => x = .returned (.tuple #[.string ⟨((s.chunkLine b).2.getD []).toArray⟩, .bool (s.chunkLine b).2.isSome]) ∧ RdPost w rd ms (s.chunkLine b).1 out w' := by
  obtain ⟨i0, hi, hz0, hz1, hz2⟩ := info_byte
  have hb256 := b.toNat_lt
  have HE := Lib.hid (ended_any h (by omega))
  obtain ⟨vo, vl, vf, vb, hI⟩ := h
  obtain ⟨a, c, rfl⟩ := row_form hI.line
  have HI := Lib.hid hI
  have q4 : w.cell? ⟨rd, 4, none⟩ = some (.slice a s.line.length c) := cell_of_heap hI.box
  have hlt := hI.lt
  clear hI
  go_enter Tryz.func130, Tryz.ntmps130
  by_cases hb : b = 10
  · subst hb
    go_wp2_with fail
    refine HE.out.mono ?_
    rintro e w2 ⟨rfl, hp⟩
    go_wp2_with fail
    go_ret2
    exact ⟨rfl, hp⟩
  · have hbn : (b.toNat : Int) ≠ 10 := fun e => hb (UInt8.toNat_inj.1 (by have : (10 : UInt8).toNat = 10 := rfl; omega))
    go_wp2_with (refine wpList_append_lies _ rfl _ _ 41 rfl 0 5 i0 _ 1 1 Tryz.underlying41 hi hz0 hz1 hz2 rfl (by decide) (.slice a s.line.length c) s.line.length (Lib.byteCells s.line) rfl (HI.out.line.alloc _) ⟨w.heap.size, 0, none⟩ 1 1 [.int .u8 b.toNat] rfl rfl (fun j u hj => cells_new _ _ _ _ _ (by simpa using hj)) (by simp [Value.oneCell']) (by decide) (by simp only [maxLen]; omega) (by omega) (Nat.zero_le _) _ rfl ?_)
    intro g cap w2 hown hgr hat hlt2
    have hIa := HI.out.later (below_alloc (Below.refl _ _) (Nat.le_refl _) (.cells #[.int .u8 b.toNat] 5))
    have hbx := hIa.past hIa.oL hgr
    have q4 : w2.cell? ⟨rd, 4, none⟩ = some (.slice a s.line.length c) := cell_of_heap hbx
    have f4 : w2.frozen? ⟨rd, 4, none⟩ = false := free_of_heap hbx
    have hP := hIa.pushLine (s' := s.put b) hown hgr (by rw [World.size_alloc]; exact hat) hlt2 rfl ⟨by simp [RS.put], byteCells_snoc _ _⟩ rfl rfl
    have HP := Lib.hid hP.1
    have HM := Lib.hid ((Mv.of_below (below_alloc (Below.refl _ _) (Nat.le_refl _) _)).trans hP.2)
    have HF := Lib.hid (fail_any ⟨_, _, _, _, hP.1⟩ 63)
    clear hIa hbx hP hown hgr hat
    by_cases hc : 200 < s.line.length + 1
    · go_wp2_with fail
      refine HF.out.mono ?_
      rintro e w3 ⟨rfl, ms2, r2, m2⟩
      go_wp2_with fail
      go_ret2
      have hx : s.chunkLine b = ((s.put b).fail 63, none) := by unfold RS.chunkLine; rw [if_neg hb, if_pos hc]
      rw [hx]
      exact ⟨rfl, ms2, r2, HM.out.trans m2⟩
    · go_wp2_with fail
      go_ret2
      have hx : s.chunkLine b = (s.put b, none) := by unfold RS.chunkLine; rw [if_neg hb, if_neg (by omega)]
      rw [hx]
      exact ⟨rfl, _, ⟨_, _, _, _, HP.out⟩, HM.out⟩

end Go.Proofs.YtdilmefeofdkmaaGreatDoor
