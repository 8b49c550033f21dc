/-
  Numbers as values: facts on wrap64 that 'omega' doesn't see (with one such fact as an equation of numbers in sight each step of a walk costs a minute).
-/
import Derived.Test.YtgklbmcnpnmkkaaDoorBase
namespace Go.Proofs.YtgklbmcnpnmkkaaDoor
open Go.RowKit

theorem wrap_nn {n : Int} (h0 : 0 ≤ n) (h : n ≤ 4611686018427387904) : wrap64 n = n := by unfold wrap64; omega
theorem vwrap {n : Int} (h0 : 0 ≤ n) (h : n ≤ 4611686018427387904) : Value.int .i64 (wrap64 n) = Value.int .i64 n := by rw [wrap_nn h0 h]
theorem veq {a b : Int} (h : a = b) : Value.int .i64 a = Value.int .i64 b := by rw [h]
theorem vsucc {k : Nat} (h : (k : Int) ≤ 4611686018427387900) : Value.int .i64 (wrap64 ((k : Int) + 1)) = Value.int .i64 ((k : Int) + 1) := vwrap (by omega) (by omega)
theorem vnext {k : Nat} : Value.int .i64 ((k : Int) + 1) = Value.int .i64 ((k + 1 : Nat) : Int) := rfl
end Go.Proofs.YtgklbmcnpnmkkaaDoor
