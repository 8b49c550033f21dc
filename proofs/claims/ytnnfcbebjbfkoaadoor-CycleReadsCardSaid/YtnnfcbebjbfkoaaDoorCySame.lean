/-
  same: two lists of rules.
-/
import Derived.Test.YtnnfcbebjbfkoaaDoorSm
import Derived.Deep.LoopGhost
namespace Go.Proofs.YtnnfcbebjbfkoaaDoor
open Go.RowKit

abbrev RuleV.ag (r : RuleV) : Value := .agg #[.string r.id, .string r.pre, .bool r.on, .int .i64 r.days, .int .i64 r.nonc, .int .i64 r.abort]

theorem eqin_rule (r : RuleV) (w : World) : (Op.equalIn 10000 34 r.ag r.ag).run Tryd.prog w = .ok true w := by
  have hS : Tryd.prog.underlying 34 = some (.struct (Tryd.prog.fieldsOf 34)) := by kernel_rfl
  have hp : Tryd.prog.stoodInHeld 34 = false := by kernel_rfl
  rw [show (10000 : Nat) = 9999 + 1 from rfl, run_equalIn_agg w 9999 34 _ _ hS hp]
  simp only [Program.fieldsOf, Tryd.underlying34]
  go_simp
theorem neq_rule (r : RuleV) (w : World) : (binOp .neq 34 r.ag r.ag).run Tryd.prog w = .ok (.bool false) w := by
  rw [run_neq_struct, eqin_rule]; rfl
theorem eql_rule (r : RuleV) (w : World) : (binOp .eql 34 r.ag r.ag).run Tryd.prog w = .ok (.bool true) w := by
  rw [run_eql_struct, eqin_rule]; rfl

set_option maxHeartbeats 400000 in
set_option maxRecDepth 100000 in
theorem same_any (l : List RuleV) (v v' : Value) (w : World) (h : RulesIn w v l) (h' : RulesIn w v' l) :
    Calls Tryd.prog 10 #[v, v'] w fun e w' => e = .returned (.bool true) ∧ Below w.heap.size w w' := by
  obtain ⟨a, c, rfl, hl, h⟩ := h
  obtain ⟨a', c', rfl, _, h'⟩ := h'
  have HA := Lib.hid h
  have HA' := Lib.hid h'
  clear h h'
  go_enter Tryd.func10, Tryd.ntmps10
  go_wp2
  go_loopg [5] l.length (fun gg s5 wr => ∃ i : Nat, i ≤ l.length ∧ l.length - i ≤ gg ∧ s5 = .int .i64 i ∧ Hid (Below w.heap.size w wr))
  case atStart => exact ⟨0, Nat.zero_le _, by omega, rfl, (show Hid _ from Below.refl _ _)⟩
  case round =>
    obtain ⟨i, hin, hgg, rfl, HB⟩ := hrel
    by_cases hlt : i < l.length
    · obtain ⟨b, off, rfl, hc⟩ := HA.out (by omega)
      obtain ⟨b', off', rfl, hc'⟩ := HA'.out (by omega)
      obtain ⟨r, HR⟩ : ∃ r, Hid (l[i]? = some r) := ⟨_, List.getElem?_eq_getElem hlt⟩
      have hcc := fun j u hj => cell_later HB.out (hc i r HR.out j u hj)
      have hcc' := fun j u hj => cell_later HB.out (hc' i r HR.out j u hj)
      obtain ⟨rid, rpre, ron, rd, rn, ra⟩ := r
      have k0 := hcc 0 _ rfl
      have k1 := hcc 1 _ rfl
      have k2 := hcc 2 _ rfl
      have k3 := hcc 3 _ rfl
      have k4 := hcc 4 _ rfl
      have k5 := hcc 5 _ rfl
      have m0 := hcc' 0 _ rfl
      have m1 := hcc' 1 _ rfl
      have m2 := hcc' 2 _ rfl
      have m3 := hcc' 3 _ rfl
      have m4 := hcc' 4 _ rfl
      have m5 := hcc' 5 _ rfl
      simp only [Nat.add_zero] at k0 m0
      have HN := Lib.hid (fun w => neq_rule ⟨rid, rpre, ron, rd, rn, ra⟩ w)
      have hne := fun nq => HN.out (wr.drewN nq)
      simp only [RuleV.ag] at hne
      have hltz : (i : Int) < (l.length : Int) := by omega
      clear hc hc' hcc hcc'
      go_wp2
      go_quiet (fail)
      go_wp2
      go_roundg (l.length - (i + 1))
      case measure => omega
      case rel => exact ⟨i + 1, by omega, Nat.le_refl _, by go_num, below_drewN HB.out _⟩
    · obtain rfl : i = l.length := by omega
      go_wp2
      go_ret
      exact ⟨rfl, HB.out⟩

end Go.Proofs.YtnnfcbebjbfkoaaDoor
