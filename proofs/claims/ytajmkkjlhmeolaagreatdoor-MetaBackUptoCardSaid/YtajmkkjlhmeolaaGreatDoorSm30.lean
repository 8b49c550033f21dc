/-
  SEVERAL SMALL TEXTS IN ONE.
-/
import Derived.Test.YtajmkkjlhmeolaaGreatDoorRxNum
import Derived.Test.YtajmkkjlhmeolaaGreatDoorMfRef
import Derived.Test.YtajmkkjlhmeolaaGreatDoorSm29
import Derived.Test.YtajmkkjlhmeolaaGreatDoorMtReadUp
import Derived.Test.YtajmkkjlhmeolaaGreatDoorSm0
/-
  storehouseref19: a field, a number, a flag as they are written: the walks; is it a moment, a number that was given out.
-/
namespace Go.Proofs.YtajmkkjlhmeolaaGreatDoor
open Go.RowKit Go.Lib Go.PlainAid

set_option maxHeartbeats 1000000 in
theorem rField_any (s : List UInt8) (hl : s.length ≤ 140737488351232) (w : World) : Calls Tryz.prog 77 #[.string ⟨s.toArray⟩] w fun e w' => e = .returned (.string ⟨(fieldL s).toArray⟩) ∧ ∃ q, w' = w.drewN q := by
  have HD := Lib.hid (digits_any s.length w (by omega))
  have hX : (decDigits s.length).length ≤ 21 := by
    have := itoa_length_le (s.length : Int) (by omega) (by omega)
    rw [itoa_nonneg] at this
    exact this
  have HE : Hid (fieldL s = decDigits s.length ++ [58] ++ s ++ [44]) := by show _ = _; unfold fieldL; rw [itoa_nonneg]; simp
  unfold DigOut at HD
  generalize decDigits s.length = X at HD HE hX
  have n1 : ¬ 9223372036854775807 < X.length + 1 := by omega
  have n2 : ¬ 9223372036854775807 < X.length + 1 + s.length := by omega
  have n3 : ¬ 9223372036854775807 < X.length + 1 + s.length + 1 := by omega
  go_enter Tryz.func77, Tryz.ntmps77
  go_wp2_with fail
  refine HD.out.mono ?_
  rintro e w1 ⟨rfl, q, rfl⟩
  go_wp2
  go_ret
  refine ⟨ret_str ?_, q, rfl⟩
  rw [HE.out]
  simp only [← str_app]

set_option maxHeartbeats 1000000 in
theorem rNum_any (n : Nat) (hn : n ≤ 9223372036854775807) (w : World) : Calls Tryz.prog 78 #[.int .i64 n] w fun e w' => e = .returned (.string ⟨(numL n).toArray⟩) ∧ ∃ q, w' = w.drewN q := by
  have HD := Lib.hid (digits_any n w hn)
  have hX : (decDigits n).length ≤ 21 := by
    have := itoa_length_le (n : Int) (by omega) (by omega)
    rw [itoa_nonneg] at this
    exact this
  have HF := Lib.hid (fun W => rField_any (decDigits n) (by omega) W)
  have HE : Hid (numL n = fieldL (decDigits n)) := by show _ = _; unfold numL; rw [itoa_nonneg]
  unfold DigOut at HD
  generalize decDigits n = X at HD HE HF hX
  go_enter Tryz.func78, Tryz.ntmps78
  go_wp2_with fail
  refine HD.out.mono ?_
  rintro e w1 ⟨rfl, q, rfl⟩
  go_wp2_with fail
  refine (HF.out _).mono ?_
  rintro e w2 ⟨rfl, q2, rfl⟩
  go_wp2
  go_ret
  rw [HE.out]
  exact ⟨rfl, q + q2, rfl⟩

set_option maxHeartbeats 1000000 in
theorem rFlag_any (b : Bool) (w : World) : Calls Tryz.prog 79 #[.bool b] w fun e w' => e = .returned (.string ⟨(numL (flagN b)).toArray⟩) ∧ ∃ q, w' = w.drewN q := by
  have H1 := Lib.hid (rField_any [49] (by simp) w)
  have H0 := Lib.hid (rField_any [48] (by simp) w)
  have HE : Hid (numL (flagN b) = fieldL (if b then [49] else [48])) := by show _ = _; unfold numL; rw [itoa_flag]
  cases b with
  | true =>
    go_enter Tryz.func79, Tryz.ntmps79
    go_wp2_with fail
    refine H1.out.mono ?_
    rintro e w1 ⟨rfl, q, rfl⟩
    go_wp2
    go_ret
    rw [HE.out]
    exact ⟨rfl, q, rfl⟩
  | false =>
    go_enter Tryz.func79, Tryz.ntmps79
    go_wp2_with fail
    refine H0.out.mono ?_
    rintro e w1 ⟨rfl, q, rfl⟩
    go_wp2
    go_ret
    rw [HE.out]
    exact ⟨rfl, q, rfl⟩

theorem rIs_any (n : Int) (w : World) : Calls Tryz.prog 102 #[.int .i64 n] w fun e w' => e = .returned (.bool (decide (0 ≤ n ∧ n ≤ 253402300799))) ∧ w = w' := by
  by_cases h1 : 0 ≤ n
  · by_cases h2 : n ≤ 253402300799
    · rw [decide_eq_true ⟨h1, h2⟩]
      go_enter Tryz.func102, Tryz.ntmps102
      go_wp2
      go_ret
      exact ⟨rfl, rfl⟩
    · rw [decide_eq_false (fun h => h2 h.2)]
      go_enter Tryz.func102, Tryz.ntmps102
      go_wp2
      go_ret
      exact ⟨rfl, rfl⟩
  · rw [decide_eq_false (fun h => h1 h.1)]
    go_enter Tryz.func102, Tryz.ntmps102
    go_wp2
    go_ret
    exact ⟨rfl, rfl⟩

theorem rValue_any (l : List UInt8) (hl : l.length ≤ 140737488351232) (w : World) : Calls Tryz.prog 68 #[.string ⟨l.toArray⟩] w fun e w' => e = .returned (.int .i64 (valueL l)) ∧ w = w' :=
  value_any ⟨l.toArray⟩ w (by show l.toArray.size ≤ _; simpa using hl)

end Go.Proofs.YtajmkkjlhmeolaaGreatDoor

/-
  storehouseref19: what is right: parts, uploads.
-/
namespace Go.Proofs.YtajmkkjlhmeolaaGreatDoor
open Go.RowKit Go.Lib

def partRB (p : PartV) : Bool := decide (1 ≤ p.num) && decide (p.num ≤ 20) && decide (0 ≤ p.size) && decide (p.size ≤ 9007199254740991) && decide (0 ≤ p.when_ ∧ p.when_ ≤ 253402300799) && decide (p.etag.length ≤ 100) && decide (1 ≤ p.blob ∧ p.blob ≤ 9007199254740991)
theorem partRB_iff (p : PartV) : partRB p = true ↔ PartRight p := by
  unfold partRB
  simp only [Bool.and_eq_true, decide_eq_true_eq]
  exact ⟨fun ⟨⟨⟨⟨⟨⟨a, b⟩, c⟩, d⟩, e⟩, f⟩, g⟩ => ⟨⟨a, b⟩, ⟨c, d⟩, e, f, g⟩, fun h => ⟨⟨⟨⟨⟨⟨h.num.1, h.num.2⟩, h.size.1⟩, h.size.2⟩, h.when_⟩, h.etag⟩, h.blob⟩⟩

set_option maxHeartbeats 2000000 in
theorem rRightPart_any (p : PartV) (w : World) : Calls Tryz.prog 82 #[.agg p.cells] w fun e w' => e = .returned (.bool (partRB p)) ∧ Below w.heap.size w w' := by
  have HI := Lib.hid (fun W => rIs_any p.when_ W)
  have HS := Lib.hid (fun W => rSeq_any p.blob W)
  obtain ⟨R, hR⟩ : ∃ R, Hid (partRB p = R) := ⟨_, rfl⟩
  rw [hR.out]
  unfold partRB at hR
  obtain ⟨n, z, t, e, b⟩ := p
  simp only [PartV.cells]
  simp only at HI HS hR
  generalize decide (0 ≤ t ∧ t ≤ 253402300799) = tw at HI hR
  generalize decide (1 ≤ b ∧ b ≤ 9007199254740991) = sb at HS hR
  obtain ⟨k, hk⟩ : ∃ k : Int, (e.length : Int) = k := ⟨_, rfl⟩
  have hk' : decide (e.length ≤ 100) = decide (k ≤ 100) := by rw [Bool.eq_iff_iff, decide_eq_true_iff, decide_eq_true_iff]; omega
  rw [hk'] at hR
  clear hk'
  go_enter Tryz.func82, Tryz.ntmps82
  go_wp2_with fail
  refine (HI.out _).mono ?_
  rintro e w1 ⟨rfl, rfl⟩
  have BA : Hid (Below w.heap.size w (w.alloc (.cells #[.int .i64 n, .int .i64 z, .int .i64 t, .string ⟨e.toArray⟩, .int .i64 b] 56))) := below_alloc (Below.refl _ _) (Nat.le_refl _) _
  go_wp2_with fail
  all_goals first
    | (refine (HS.out _).mono ?_
       rintro e w2 ⟨rfl, rfl⟩
       have hF : R = sb := by rw [← hR.out]; grind
       have hF := Lib.hid hF
       clear hR
       cases sb
       · go_wp2
         go_ret
         rw [hF.out]
         exact ⟨rfl, BA.out⟩
       · go_wp2
         go_ret
         rw [hF.out]
         exact ⟨rfl, BA.out⟩)
    | (have hF : R = false := by rw [← hR.out]; grind
       rw [hF]
       go_ret
       exact ⟨rfl, BA.out⟩)

end Go.Proofs.YtajmkkjlhmeolaaGreatDoor

/-
  A call of a Go function at an operation: by its contract, without a walk.
-/
namespace Go.Proofs.YtajmkkjlhmeolaaGreatDoor
open Go.RowKit

theorem wp_call_go {P : Program} {o : Oper} {a : Act} {w : World} {K : Act → World → Prop} {Q : Exit → Act → World → Prop} {f : Nat} {fn : Func} (hf : P.funcs[f]? = some fn) (hn : (fn.name == "runtime.NumGoroutine") = false) (hb : fn.body.isNone = false)
    {xs : List Operand} {tys : Array TypeId}
    (ho : o.op = .call { callee := .value (.func f), args := xs.toArray, argTypes := tys }) {vs : List Value} {R : Ending → World → Prop} (hc : Calls P f vs.toArray w R) (hv : xs.map a.eval = vs)
    (h : ∀ e w', R e w' → ∃ v, e = .returned v ∧ K (a.put o.dst v) w') : o.wp P a w K Q := by
  have hx : (execOp a.eval o).run P w = .ok (.enter f vs.toArray) w := by
    unfold execOp
    simp [ho, resolve, invoke, hv, Act.eval, Deferred.ofValue, callFunc]
    simp [hf]
    have hn' : ¬ fn.name = "runtime.NumGoroutine" := by simpa using hn
    cases hbd : fn.body with
    | none => rw [hbd] at hb; cases hb
    | some b => simp [hn']
  unfold Oper.wp
  rw [hx, Oper.upon_enter]
  refine hc.mono ?_
  intro e w' hR
  obtain ⟨v, rfl, hk⟩ := h e w' hR
  exact hk

end Go.Proofs.YtajmkkjlhmeolaaGreatDoor
