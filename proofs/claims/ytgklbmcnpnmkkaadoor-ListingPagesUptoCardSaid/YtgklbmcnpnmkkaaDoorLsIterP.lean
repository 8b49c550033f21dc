/-
  LISTING: the iterator's own laws: an operation under a wide fence, a call of yield; where a text stands; the entries, one row further.
-/
import Derived.Test.YtgklbmcnpnmkkaaDoorLsSeq
import Derived.Test.YtgklbmcnpnmkkaaDoorLsTellU
import Derived.Test.YtgklbmcnpnmkkaaDoorLsSortP
import Derived.Deep.MidRow
import Derived.Deep.RegionHeld
namespace Go.Proofs.YtgklbmcnpnmkkaaDoor
open Go.RowKit

section
variable {P : Program} {n : Nat} {ops : Array Oper} {Q : Exit → Act → World → Prop} {rest : List Oper} {o : Oper} {a : Act} {w : World}
theorem op_inWide {K : Act → World → Prop} (hd : ∀ c, o.op ≠ .defer c) (h : o.wp P a w K Q) : o.wpIn Fence.wide n P a w K Q := by
  refine ⟨fun _ _ => trivial, ?_⟩
  have e : o.semAt Fence.wide.round a.eval = execOp a.eval o := Oper.semAt_plain _ _ o hd
  rw [e]
  unfold Oper.wp at h
  generalize (execOp a.eval o).run P w = res at h
  cases res with
  | ok x w' =>
    cases x <;> simp only [Oper.upon, Oper.uponIn] at h ⊢ <;>
      first
        | exact h
        | exact ⟨fun hx => (by cases hx), callsIn_wide.2 h⟩
        | exact ⟨fun hx => (by cases hx), rows_inWide h⟩
  | halt x w' => cases x <;> simp only [Oper.upon, Oper.uponIn] at h ⊢ <;> exact h
theorem listIn_op (hg : o.guard = none) (hd : ∀ c, o.op ≠ .defer c) (h : o.wp P a w (wpListIn Fence.wide n P ops Q rest) Q) : wpListIn Fence.wide n P ops Q (o :: rest) a w :=
  wpListIn_plain hg fun _ hK => Oper.wpIn_mono hK (op_inWide hd h)
theorem wp_moveL {K : Act → World → Prop} (x : Operand) (h : o.op = .move x) (hk : K (a.put o.dst (a.eval x)) w) : o.wp P a w K Q := by
  unfold Oper.wp execOp
  rw [h]
  exact hk
/-- a call of yield -/
theorem listIn_yield {l : Nat} {x y : Operand} {tys : Array TypeId} (hg : o.guard = none) (ho : o.op = .call { callee := .value x, args := #[y], argTypes := tys }) (hx : a.eval x = .func (.yield l) #[] #[])
    {v : Value} (hv : a.eval y = v) {R : Ending → World → Prop} (hY : ∀ m, YieldAt Fence.wide m P l #[v] w R)
    (h : ∀ e w', R e w' → ∃ u, e = .returned u ∧ wpListIn Fence.wide n P ops Q rest (a.put o.dst u) w') : wpListIn Fence.wide n P ops Q (o :: rest) a w := by
  refine wpListIn_plain hg fun K hK => ⟨fun _ _ => trivial, ?_⟩
  obtain ⟨fn, tmps, assign, body, hy, hR⟩ := hY (n - 1)
  have hd : ∀ c, o.op ≠ .defer c := fun c hc => by rw [ho] at hc; cases hc
  have e : o.semAt Fence.wide.round a.eval = execOp a.eval o := Oper.semAt_plain _ _ o hd
  rw [e]
  have hx' : (execOp a.eval o).run P w = .ok (.round l fn tmps assign body) w := by
    unfold execOp
    simp [ho, resolve, invoke, hv, hx, Deferred.ofValue, callFunc, hy]
  rw [hx', Oper.uponIn_round]
  refine ⟨fun h => (by cases h), hR.mono fun e w' hr => ?_⟩
  obtain ⟨u, rfl, hk⟩ := h e w' hr
  exact hK _ _ hk
/-- a call of a function by its value -/
theorem wp_call_val {K : Act → World → Prop} {f : Nat} {fn : Func} (hf : P.funcs[f]? = some fn) (hn : (fn.name == "runtime.NumGoroutine") = false) (hb : fn.body.isNone = false)
    {x : Operand} {xs : List Operand} {tys : Array TypeId}
    (ho : o.op = .call { callee := .value x, args := xs.toArray, argTypes := tys }) (hx : a.eval x = .func (.func f) #[] #[]) {vs : List Value} {R : Ending → World → Prop} (hc : Calls P f vs.toArray w R) (hv : xs.map a.eval = vs)
    (h : ∀ e w', R e w' → ∃ v, e = .returned v ∧ K (a.put o.dst v) w') : o.wp P a w K Q := by
  have hx' : (execOp a.eval o).run P w = .ok (.enter f vs.toArray) w := by
    unfold execOp
    simp [ho, resolve, invoke, hv, hx, Deferred.ofValue, callFunc]
    simp [hf]
    have hn' : ¬ fn.name = "runtime.NumGoroutine" := by simpa using hn
    cases hbd : fn.body with
    | none => rw [hbd] at hb; cases hb
    | some b => simp [hn']
  unfold Oper.wp
  rw [hx', Oper.upon_enter]
  refine hc.mono ?_
  intro e w' hR
  obtain ⟨v, rfl, hk⟩ := h e w' hR
  exact hk
theorem wpList_call_val (hg : o.guard = none) {f : Nat} {fn : Func} (hf : P.funcs[f]? = some fn) (hn : (fn.name == "runtime.NumGoroutine") = false) (hb : fn.body.isNone = false)
    {x : Operand} {xs : List Operand} {tys : Array TypeId}
    (ho : o.op = .call { callee := .value x, args := xs.toArray, argTypes := tys }) (hx : a.eval x = .func (.func f) #[] #[]) {vs : List Value} {R : Ending → World → Prop} (hc : Calls P f vs.toArray w R) (hv : xs.map a.eval = vs)
    (h : ∀ e w', R e w' → ∃ v, e = .returned v ∧ wpList P ops Q rest (a.put o.dst v) w') : wpList P ops Q (o :: rest) a w :=
  wpList_plain hg fun _ hK => wp_call_val hf hn hb ho hx hc hv fun e w' hr => by
    obtain ⟨v, h1, h2⟩ := h e w' hr
    exact ⟨v, h1, hK _ _ h2⟩
end

theorem lib_index (what : List UInt8) : ∀ s : List UInt8, Lib.index s what = match indexL what s with | some n => (n : Int) | none => -1
  | [] => by
    unfold Lib.index indexL
    cases what <;> rfl
  | b :: s => by
    unfold Lib.index indexL
    split
    · rfl
    · rw [lib_index what s]
      cases indexL what s with
      | none => rfl
      | some m =>
        have hne : ((m : Int) == -1) = false := by
          rw [beq_eq_false_iff_ne]
          omega
        simp only [hne, Option.map_some]
        simp

/-- what a row is, as the code asks it -/
inductive EntCase (k : Kind) (pre delim : List UInt8) (r : RowD) : Prop
  | no (h : Lib.hasPrefix r.key pre = false) (e : entOf k pre delim r = none)
  | com (h : Lib.hasPrefix r.key pre = true) (hc : r.common = true) (e : entOf k pre delim r = none)
  | plain (h : Lib.hasPrefix r.key pre = true) (hc : r.common = false) (hd : delim = [] ∨ Lib.index (Lib.trimPrefix r.key pre) delim < 0) (e : entOf k pre delim r = some (told k r))
  | cut (m : Nat) (h : Lib.hasPrefix r.key pre = true) (hc : r.common = false) (hd : delim ≠ []) (hi : Lib.index (Lib.trimPrefix r.key pre) delim = (m : Int)) (hl : m + delim.length ≤ (Lib.trimPrefix r.key pre).length)
      (e : entOf k pre delim r = some (comR (pre ++ (Lib.trimPrefix r.key pre).take (m + delim.length))))
theorem entCase (k : Kind) (pre delim : List UInt8) (r : RowD) : EntCase k pre delim r := by
  cases h : Lib.hasPrefix r.key pre with
  | false =>
    refine .no h ?_
    unfold Lib.hasPrefix at h
    unfold entOf
    simp [h]
  | true =>
    have ht : Lib.trimPrefix r.key pre = r.key.drop pre.length := by unfold Lib.trimPrefix; simp [h]
    have h' : pre.isPrefixOf r.key = true := h
    cases hc : r.common with
    | true =>
      refine .com h hc ?_
      unfold entOf
      simp [hc]
    | false =>
      by_cases hd : delim = []
      · refine .plain h hc (.inl hd) ?_
        unfold entOf
        simp [hc, h', hd]
      · cases hi : indexL delim (r.key.drop pre.length) with
        | none =>
          refine .plain h hc (.inr ?_) ?_
          · rw [ht, lib_index, hi]; simp
          · unfold entOf
            simp [hc, h', hd, hi]
        | some m =>
          have hl : m + delim.length ≤ (r.key.drop pre.length).length := by
            clear ht
            generalize r.key.drop pre.length = s at hi ⊢
            induction s generalizing m with
            | nil => simp [indexL, hd] at hi
            | cons b s ih =>
              unfold indexL at hi
              split at hi
              · rename_i hp
                injection hi with hi
                subst hi
                rw [List.isPrefixOf_iff_prefix] at hp
                have := hp.length_le
                omega
              · rw [Option.map_eq_some_iff] at hi
                obtain ⟨m', hm', rfl⟩ := hi
                have := ih m' hm'
                simp only [List.length_cons]
                omega
          refine .cut m h hc hd ?_ ?_ ?_
          · rw [ht, lib_index, hi]
          · rw [ht]; exact hl
          · unfold entOf
            simp only [hc, h', hd, hi, ht]
            simp
theorem extract_takeL (l : List UInt8) (i : Nat) : (⟨l.toArray⟩ : ByteArray).extract 0 i = ⟨(l.take i).toArray⟩ := by
  have : ((⟨l.toArray⟩ : ByteArray).extract 0 i).data.toList = l.take i := by simp
  rw [← this]
theorem ents_none {k : Kind} {pre delim : List UInt8} {last r : RowD} {l : List RowD} (h : entOf k pre delim r = none) : ents k pre delim last (r :: l) = ents k pre delim last l := by
  simp [ents, h]
theorem ents_new {k : Kind} {pre delim : List UInt8} {last r e : RowD} {l : List RowD} (h : entOf k pre delim r = some e) (hn : (e.common && last.common && last.key == e.key) = false) : ents k pre delim last (r :: l) = e :: ents k pre delim e l := by
  simp only [ents, h, hn]
  rfl
theorem ents_same {k : Kind} {pre delim : List UInt8} {last r e : RowD} {l : List RowD} (h : entOf k pre delim r = some e) (hn : (e.common && last.common && last.key == e.key) = true) : ents k pre delim last (r :: l) = ents k pre delim last l := by
  simp only [ents, h, hn]
  rfl
theorem setRow_grown (w : World) (g : Nat) (cs : Array Value) : w.grownBy (w.setRow g cs) (some g) := ⟨rfl, rfl, rfl, by simp, fun k _ hk => setRow_other _ _ _ _ (fun e => hk (by rw [e]))⟩
theorem set_grown (w : World) (a : Addr) (v : Value) : w.grownBy (w.setCell a v) (some a.block) := ⟨rfl, rfl, rfl, by simp [World.setCell], fun k _ hk => Below.heap_setCell _ _ _ _ (fun e => hk (by rw [e]))⟩
theorem trim_le (s p : List UInt8) : (Lib.trimPrefix s p).length ≤ s.length := by
  unfold Lib.trimPrefix
  split
  · rw [List.length_drop]; omega
  · exact Nat.le_refl _
theorem RowV.ones {p : RowV} (hb : p.vb.oneCell' = true) (hp : p.vp.oneCell' = true) : (p.cells.toArray.all fun x => x.oneCell') = true := by
  rw [List.all_toArray, List.all_eq_true]
  intro x hx
  simp only [RowV.cells, List.mem_cons, List.not_mem_nil, or_false] at hx
  rcases hx with rfl | rfl | rfl | rfl | rfl | rfl | rfl | rfl | rfl | rfl | rfl | rfl | rfl | rfl | rfl | rfl | rfl | rfl
  all_goals first | rfl | assumption
theorem RowIn.ones {w : World} {p : RowV} (h : RowIn w p) : (p.cells.toArray.all fun x => x.oneCell') = true := by
  obtain ⟨a, c, h1, _⟩ := h.blobs
  obtain ⟨a', c', h2, _⟩ := h.parts
  exact RowV.ones (by rw [h1]; rfl) (by rw [h2]; rfl)
theorem RowOwn.ones {w : World} {base : Nat} {p : RowV} (h : RowOwn w base p) : (p.cells.toArray.all fun x => x.oneCell') = true := by
  obtain ⟨a, c, h1⟩ := own_form h.blobs
  obtain ⟨a', c', h2⟩ := own_form h.parts
  exact RowV.ones (by rw [h1]; rfl) (by rw [h2]; rfl)
theorem RowOwn.one_mem {w : World} {base : Nat} {p : RowV} (h : RowOwn w base p) : ∀ u ∈ p.cells, u.oneCell' = true := by
  have := h.ones
  rw [List.all_toArray, List.all_eq_true] at this
  exact this
theorem info_row : ∃ i, Tryd.prog.info? 36 = some i ∧ i.zero = some (.agg rowZC) ∧ i.size = 18 ∧ i.bytes = 216 :=
  info_parts (show (Tryd.prog.info? 36).map (fun i => (i.zero, i.size, i.bytes)) = some (some (.agg rowZC), 18, 216) by kernel_rfl)
end Go.Proofs.YtgklbmcnpnmkkaaDoor
