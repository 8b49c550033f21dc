/-
  A call of a Go function at an operation: by its contract, without a walk.
-/
import Derived.Test.YtgklbmcnpnmkkaaDoorBase
namespace Go.Proofs.YtgklbmcnpnmkkaaDoor
open Go.RowKit

theorem wp_call_go {P : Program} {o : Oper} {a : Act} {w : World} {K : Act → World → Prop} {Q : Exit → Act → World → Prop} {f : Nat} {fn : Func} (hf : P.funcs[f]? = some fn) (hn : (fn.name == "runtime.NumGoroutine") = false) (hb : fn.body.isNone = false)
    {xs : List Operand} {tys : Array TypeId}
    (ho : o.op = .call { callee := .value (.func f), args := xs.toArray, argTypes := tys }) {vs : List Value} {R : Ending → World → Prop} (hc : Calls P f vs.toArray w R) (hv : xs.map a.eval = vs)
    (h : ∀ e w', R e w' → ∃ v, e = .returned v ∧ K (a.put o.dst v) w') : o.wp P a w K Q := by
  have hx : (execOp a.eval o).run P w = .ok (.enter f vs.toArray) w := by
    unfold execOp
    simp [ho, resolve, invoke, hv, Act.eval, Deferred.ofValue, callFunc]
    simp [hf]
    have hn' : ¬ fn.name = "runtime.NumGoroutine" := by simpa using hn
    cases hbd : fn.body with
    | none => rw [hbd] at hb; cases hb
    | some b => simp [hn']
  unfold Oper.wp
  rw [hx, Oper.upon_enter]
  refine hc.mono ?_
  intro e w' hR
  obtain ⟨v, rfl, hk⟩ := h e w' hR
  exact hk

end Go.Proofs.YtgklbmcnpnmkkaaDoor
