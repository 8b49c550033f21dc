/-
  SEVERAL SMALL TEXTS IN ONE.
-/
import Derived.Test.YtgmgghbocidibaaGreatDoorSm0
import Derived.Test.YtgmgghbocidibaaGreatDoorXmLaw2
import Derived.Test.YtgmgghbocidibaaGreatDoorShelf
/-
  A call of a Go function at an operation: by its contract, without a walk.
-/
namespace Go.Proofs.YtgmgghbocidibaaGreatDoor
open Go.RowKit

theorem wp_call_go {P : Program} {o : Oper} {a : Act} {w : World} {K : Act → World → Prop} {Q : Exit → Act → World → Prop} {f : Nat} {fn : Func} (hf : P.funcs[f]? = some fn) (hn : (fn.name == "runtime.NumGoroutine") = false) (hb : fn.body.isNone = false)
    {xs : List Operand} {tys : Array TypeId}
    (ho : o.op = .call { callee := .value (.func f), args := xs.toArray, argTypes := tys }) {vs : List Value} {R : Ending → World → Prop} (hc : Calls P f vs.toArray w R) (hv : xs.map a.eval = vs)
    (h : ∀ e w', R e w' → ∃ v, e = .returned v ∧ K (a.put o.dst v) w') : o.wp P a w K Q := by
  have hx : (execOp a.eval o).run P w = .ok (.enter f vs.toArray) w := by
    unfold execOp
    simp [ho, resolve, invoke, hv, Act.eval, Deferred.ofValue, callFunc]
    simp [hf]
    have hn' : ¬ fn.name = "runtime.NumGoroutine" := by simpa using hn
    cases hbd : fn.body with
    | none => rw [hbd] at hb; cases hb
    | some b => simp [hn']
  unfold Oper.wp
  rw [hx, Oper.upon_enter]
  refine hc.mono ?_
  intro e w' hR
  obtain ⟨v, rfl, hk⟩ := h e w' hR
  exact hk

end Go.Proofs.YtgmgghbocidibaaGreatDoor

/-
  xml.first, more, knows: characters.
-/
namespace Go.Proofs.YtgmgghbocidibaaGreatDoor
open Go.RowKit Go.Lib

theorem ret_b {a b : Bool} (h : a = true ↔ b = true) : Ending.returned (.bool a) = .returned (.bool b) := by rw [Bool.eq_iff_iff.2 h]
theorem first_bits : ∀ n : Fin 256, (decide (97 ≤ bits .or .u8 (n.val : Int) 32) && decide (bits .or .u8 (n.val : Int) 32 ≤ 122) || decide ((n.val : Int) = 95)) = firstX (UInt8.ofNat n.val) := by decide +kernel
set_option maxHeartbeats 2000000 in
set_option maxRecDepth 100000 in
theorem xfirst_any (b : UInt8) (w : World) : Calls Tryz.prog 49 #[.int .u8 b.toNat] w fun e w' => e = .returned (.bool (firstX b)) ∧ w' = w := by
  have hb := first_bits ⟨b.toNat, UInt8.toNat_lt b⟩
  simp only [UInt8.ofNat_toNat] at hb
  rw [← hb]
  clear hb
  obtain ⟨X, hX⟩ : ∃ X, bits .or .u8 (b.toNat : Int) 32 = X := ⟨_, rfl⟩
  rw [hX]
  go_enter Tryz.func49, Tryz.ntmps49
  by_cases h1 : 97 ≤ X
  · by_cases h2 : X ≤ 122
    · go_wp2_with fail
      go_ret
      exact ⟨ret_b (by first | (simp; done) | (simp; omega)), rfl⟩
    · go_wp2_with fail
      go_ret
      exact ⟨ret_b (by first | (simp; done) | (simp; omega)), rfl⟩
  · go_wp2_with fail
    go_ret
    exact ⟨ret_b (by first | (simp; done) | (simp; omega)), rfl⟩
set_option maxHeartbeats 2000000 in
set_option maxRecDepth 100000 in
theorem xmore_any (b : UInt8) (w : World) : Calls Tryz.prog 52 #[.int .u8 b.toNat] w fun e w' => e = .returned (.bool (moreX b)) ∧ w' = w := by
  have HF := Lib.hid (xfirst_any b w)
  have HM : Hid (moreX b = (firstX b || (decide (48 ≤ (b.toNat : Int)) && decide ((b.toNat : Int) ≤ 57)) || decide ((b.toNat : Int) = 45) || decide ((b.toNat : Int) = 46))) := by
    show _ = _
    unfold moreX
    have e : ∀ n : UInt8, (b = n) ↔ ((b.toNat : Int) = n.toNat) := fun n => ⟨fun h => by rw [h], fun h => UInt8.toNat_inj.1 (by omega)⟩
    have l1 : (48 ≤ b) ↔ (48 ≤ (b.toNat : Int)) := by show (48 : UInt8).toNat ≤ b.toNat ↔ _; rw [show (48 : UInt8).toNat = 48 from rfl]; omega
    have l2 : (b ≤ 57) ↔ ((b.toNat : Int) ≤ 57) := by show b.toNat ≤ (57 : UInt8).toNat ↔ _; rw [show (57 : UInt8).toNat = 57 from rfl]; omega
    simp only [l1, l2, e 45, e 46]
    rfl
  rw [HM.out]
  clear HM
  obtain ⟨f, hf⟩ : ∃ f, firstX b = f := ⟨_, rfl⟩
  rw [hf] at HF ⊢
  clear hf
  go_enter Tryz.func52, Tryz.ntmps52
  go_wp2_with fail
  refine HF.out.mono ?_
  rintro e w1 ⟨rfl, rfl⟩
  cases f with
  | true =>
    go_wp2_with fail
    go_ret
    exact ⟨ret_b (by first | (simp; done) | (simp; omega)), rfl⟩
  | false =>
    by_cases h1 : 48 ≤ (b.toNat : Int)
    · by_cases h2 : (b.toNat : Int) ≤ 57
      · go_wp2_with fail
        go_ret
        exact ⟨ret_b (by first | (simp; done) | (simp; omega)), rfl⟩
      · go_wp2_with fail
        go_ret
        exact ⟨ret_b (by first | (simp; done) | (simp; omega)), rfl⟩
    · by_cases h3 : (b.toNat : Int) = 45
      · go_wp2_with fail
        go_ret
        exact ⟨ret_b (by first | (simp; done) | (simp; omega)), rfl⟩
      · go_wp2_with fail
        go_ret
        exact ⟨ret_b (by first | (simp; done) | (simp; omega)), rfl⟩
set_option maxHeartbeats 2000000 in
set_option maxRecDepth 100000 in
theorem xknows_any (c : Int) (w : World) : Calls Tryz.prog 64 #[.int .i32 c] w fun e w' => e = .returned (.bool (knowsX c)) ∧ w' = w := by
  have HV := Lib.hid (Tryz.utf8_ValidRune c)
  have HK : Hid (knowsX c = (decide (c = 9) || decide (c = 10) || decide (c = 13) || (decide (c ≠ 65534) && decide (c ≠ 65535) && decide (32 ≤ c) && Lib.validRune c))) := by
    show _ = _
    unfold knowsX Lib.validRune
    apply Bool.eq_iff_iff.2
    simp only [Bool.or_eq_true, Bool.and_eq_true, decide_eq_true_eq]
    omega
  rw [HK.out]
  clear HK
  obtain ⟨v, hv⟩ : ∃ v, Lib.validRune c = v := ⟨_, rfl⟩
  rw [hv] at HV ⊢
  clear hv
  go_enter Tryz.func64, Tryz.ntmps64
  by_cases h1 : c = 9
  · subst h1
    go_wp2_with fail
    go_ret
    exact ⟨ret_b (by first | (simp; done) | (simp; omega)), rfl⟩
  · by_cases h2 : c = 10
    · subst h2
      go_wp2_with fail
      go_ret
      exact ⟨ret_b (by first | (simp; done) | (simp; omega)), rfl⟩
    · by_cases h3 : c = 13
      · subst h3
        go_wp2_with fail
        go_ret
        exact ⟨ret_b (by first | (simp; done) | (simp; omega)), rfl⟩
      · by_cases h4 : c = 65534
        · subst h4
          go_wp2_with fail
          go_ret
          exact ⟨ret_b (by first | (simp; done) | (simp; omega)), rfl⟩
        · by_cases h5 : c = 65535
          · subst h5
            go_wp2_with fail
            go_ret
            exact ⟨ret_b (by first | (simp; done) | (simp; omega)), rfl⟩
          · have e1 : (c == 9) = false := beq_eq_false_iff_ne.2 h1
            have e2 : (c == 10) = false := beq_eq_false_iff_ne.2 h2
            have e3 : (c == 13) = false := beq_eq_false_iff_ne.2 h3
            have e4 : (c == 65534) = false := beq_eq_false_iff_ne.2 h4
            have e5 : (c == 65535) = false := beq_eq_false_iff_ne.2 h5
            by_cases h6 : 32 ≤ c
            · go_wp2_with fail
              refine (HV.out w).mono ?_
              rintro e w1 ⟨rfl, rfl⟩
              go_wp2_with fail
              go_ret
              exact ⟨ret_b (by cases v <;> simp <;> omega), rfl⟩
            · go_wp2_with fail
              go_ret
              exact ⟨ret_b (by first | (simp; done) | (simp; omega)), rfl⟩
end Go.Proofs.YtgmgghbocidibaaGreatDoor
