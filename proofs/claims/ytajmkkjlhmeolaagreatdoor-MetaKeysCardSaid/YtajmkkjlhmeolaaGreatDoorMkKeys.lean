/-
  storehouseref19: the keys that stand on a number alone.
-/
import Derived.Test.YtajmkkjlhmeolaaGreatDoorMkNumber
namespace Go.Proofs.YtajmkkjlhmeolaaGreatDoor
open Go.RowKit Go.Lib

theorem rSeq_any (n : Int) (w : World) : Calls Tryz.prog 57 #[.int .i64 n] w fun e w' => e = .returned (.bool (decide (1 ≤ n ∧ n ≤ 9007199254740991))) ∧ w = w' := by
  by_cases h1 : 1 ≤ n
  · by_cases h2 : n ≤ 9007199254740991
    · rw [decide_eq_true ⟨h1, h2⟩]
      go_enter Tryz.func57, Tryz.ntmps57
      go_wp2
      go_ret
      exact ⟨rfl, rfl⟩
    · rw [decide_eq_false (fun h => h2 h.2)]
      go_enter Tryz.func57, Tryz.ntmps57
      go_wp2
      go_ret
      exact ⟨rfl, rfl⟩
  · rw [decide_eq_false (fun h => h1 h.1)]
    go_enter Tryz.func57, Tryz.ntmps57
    go_wp2
    go_ret
    exact ⟨rfl, rfl⟩

set_option maxHeartbeats 1000000 in
theorem rUploadKey_any (n : Int) (hn : IntOK n) (w : World) : Calls Tryz.prog 22 #[.int .i64 n] w fun e w' => e = .returned (.string ⟨(keyL [117, 47] n).toArray⟩) ∧ w = w' := by
  have HS := Lib.hid (rSeq_any n w)
  have HN := Lib.hid (rNumber_any n hn w)
  unfold keyL
  by_cases h : 1 ≤ n ∧ n ≤ 9007199254740991
  · have hl := (numText_in (n := n) ⟨by omega, h.2⟩).1
    rw [decide_eq_true h] at HS
    rw [if_pos h]
    generalize numText n = t at HN hl ⊢
    have g : ¬ 9223372036854775807 < 2 + t.length := by omega
    clear h hn
    go_enter Tryz.func22, Tryz.ntmps22
    go_wp2_with fail
    refine HS.out.mono ?_
    rintro e w1 ⟨rfl, rfl⟩
    go_wp2_with fail
    refine HN.out.mono ?_
    rintro e w1 ⟨rfl, rfl⟩
    go_wp2
    go_ret
    exact ⟨ret_str (str_app _ t), rfl⟩
  · rw [decide_eq_false h] at HS
    rw [if_neg h]
    clear h hn
    go_enter Tryz.func22, Tryz.ntmps22
    go_wp2_with fail
    refine HS.out.mono ?_
    rintro e w1 ⟨rfl, rfl⟩
    go_wp2
    go_ret
    exact ⟨rfl, rfl⟩

set_option maxHeartbeats 1000000 in
theorem rBlobKey_any (n : Int) (hn : IntOK n) (w : World) : Calls Tryz.prog 25 #[.int .i64 n] w fun e w' => e = .returned (.string ⟨(keyL [100, 47] n).toArray⟩) ∧ w = w' := by
  have HS := Lib.hid (rSeq_any n w)
  have HN := Lib.hid (rNumber_any n hn w)
  unfold keyL
  by_cases h : 1 ≤ n ∧ n ≤ 9007199254740991
  · have hl := (numText_in (n := n) ⟨by omega, h.2⟩).1
    rw [decide_eq_true h] at HS
    rw [if_pos h]
    generalize numText n = t at HN hl ⊢
    have g : ¬ 9223372036854775807 < 2 + t.length := by omega
    clear h hn
    go_enter Tryz.func25, Tryz.ntmps25
    go_wp2_with fail
    refine HS.out.mono ?_
    rintro e w1 ⟨rfl, rfl⟩
    go_wp2_with fail
    refine HN.out.mono ?_
    rintro e w1 ⟨rfl, rfl⟩
    go_wp2
    go_ret
    exact ⟨ret_str (str_app _ t), rfl⟩
  · rw [decide_eq_false h] at HS
    rw [if_neg h]
    clear h hn
    go_enter Tryz.func25, Tryz.ntmps25
    go_wp2_with fail
    refine HS.out.mono ?_
    rintro e w1 ⟨rfl, rfl⟩
    go_wp2
    go_ret
    exact ⟨rfl, rfl⟩

end Go.Proofs.YtajmkkjlhmeolaaGreatDoor
