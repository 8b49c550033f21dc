/-
  SEVERAL SMALL TEXTS IN ONE.
-/
import Derived.Test.YtajmkkjlhmeolaaGreatDoorSm27
import Derived.Test.YtajmkkjlhmeolaaGreatDoorMtReadUp
import Derived.Test.YtajmkkjlhmeolaaGreatDoorSm0
/-
  storehouseref19: what is right: parts, uploads.
-/
namespace Go.Proofs.YtajmkkjlhmeolaaGreatDoor
open Go.RowKit Go.Lib

def partRB (p : PartV) : Bool := decide (1 ≤ p.num) && decide (p.num ≤ 20) && decide (0 ≤ p.size) && decide (p.size ≤ 9007199254740991) && decide (0 ≤ p.when_ ∧ p.when_ ≤ 253402300799) && decide (p.etag.length ≤ 100) && decide (1 ≤ p.blob ∧ p.blob ≤ 9007199254740991)
theorem partRB_iff (p : PartV) : partRB p = true ↔ PartRight p := by
  unfold partRB
  simp only [Bool.and_eq_true, decide_eq_true_eq]
  exact ⟨fun ⟨⟨⟨⟨⟨⟨a, b⟩, c⟩, d⟩, e⟩, f⟩, g⟩ => ⟨⟨a, b⟩, ⟨c, d⟩, e, f, g⟩, fun h => ⟨⟨⟨⟨⟨⟨h.num.1, h.num.2⟩, h.size.1⟩, h.size.2⟩, h.when_⟩, h.etag⟩, h.blob⟩⟩

set_option maxHeartbeats 2000000 in
theorem rRightPart_any (p : PartV) (w : World) : Calls Tryz.prog 82 #[.agg p.cells] w fun e w' => e = .returned (.bool (partRB p)) ∧ Below w.heap.size w w' := by
  have HI := Lib.hid (fun W => rIs_any p.when_ W)
  have HS := Lib.hid (fun W => rSeq_any p.blob W)
  obtain ⟨R, hR⟩ : ∃ R, Hid (partRB p = R) := ⟨_, rfl⟩
  rw [hR.out]
  unfold partRB at hR
  obtain ⟨n, z, t, e, b⟩ := p
  simp only [PartV.cells]
  simp only at HI HS hR
  generalize decide (0 ≤ t ∧ t ≤ 253402300799) = tw at HI hR
  generalize decide (1 ≤ b ∧ b ≤ 9007199254740991) = sb at HS hR
  obtain ⟨k, hk⟩ : ∃ k : Int, (e.length : Int) = k := ⟨_, rfl⟩
  have hk' : decide (e.length ≤ 100) = decide (k ≤ 100) := by rw [Bool.eq_iff_iff, decide_eq_true_iff, decide_eq_true_iff]; omega
  rw [hk'] at hR
  clear hk'
  go_enter Tryz.func82, Tryz.ntmps82
  go_wp2_with fail
  refine (HI.out _).mono ?_
  rintro e w1 ⟨rfl, rfl⟩
  have BA : Hid (Below w.heap.size w (w.alloc (.cells #[.int .i64 n, .int .i64 z, .int .i64 t, .string ⟨e.toArray⟩, .int .i64 b] 56))) := below_alloc (Below.refl _ _) (Nat.le_refl _) _
  go_wp2_with fail
  all_goals first
    | (refine (HS.out _).mono ?_
       rintro e w2 ⟨rfl, rfl⟩
       have hF : R = sb := by rw [← hR.out]; grind
       have hF := Lib.hid hF
       clear hR
       cases sb
       · go_wp2
         go_ret
         rw [hF.out]
         exact ⟨rfl, BA.out⟩
       · go_wp2
         go_ret
         rw [hF.out]
         exact ⟨rfl, BA.out⟩)
    | (have hF : R = false := by rw [← hR.out]; grind
       rw [hF]
       go_ret
       exact ⟨rfl, BA.out⟩)

end Go.Proofs.YtajmkkjlhmeolaaGreatDoor

/-
  A call of a Go function at an operation: by its contract, without a walk.
-/
namespace Go.Proofs.YtajmkkjlhmeolaaGreatDoor
open Go.RowKit

theorem wp_call_go {P : Program} {o : Oper} {a : Act} {w : World} {K : Act → World → Prop} {Q : Exit → Act → World → Prop} {f : Nat} {fn : Func} (hf : P.funcs[f]? = some fn) (hn : (fn.name == "runtime.NumGoroutine") = false) (hb : fn.body.isNone = false)
    {xs : List Operand} {tys : Array TypeId}
    (ho : o.op = .call { callee := .value (.func f), args := xs.toArray, argTypes := tys }) {vs : List Value} {R : Ending → World → Prop} (hc : Calls P f vs.toArray w R) (hv : xs.map a.eval = vs)
    (h : ∀ e w', R e w' → ∃ v, e = .returned v ∧ K (a.put o.dst v) w') : o.wp P a w K Q := by
  have hx : (execOp a.eval o).run P w = .ok (.enter f vs.toArray) w := by
    unfold execOp
    simp [ho, resolve, invoke, hv, Act.eval, Deferred.ofValue, callFunc]
    simp [hf]
    have hn' : ¬ fn.name = "runtime.NumGoroutine" := by simpa using hn
    cases hbd : fn.body with
    | none => rw [hbd] at hb; cases hb
    | some b => simp [hn']
  unfold Oper.wp
  rw [hx, Oper.upon_enter]
  refine hc.mono ?_
  intro e w' hR
  obtain ⟨v, rfl, hk⟩ := h e w' hR
  exact hk

end Go.Proofs.YtajmkkjlhmeolaaGreatDoor
