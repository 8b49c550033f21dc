/-
  storehouseref19: the keys of buckets and versions.
-/
import Derived.Test.YtajmkkjlhmeolaaGreatDoorMkKeys
import Derived.Test.YtajmkkjlhmeolaaGreatDoorMkBucket
namespace Go.Proofs.YtajmkkjlhmeolaaGreatDoor
open Go.RowKit Go.Lib

set_option maxHeartbeats 1000000 in
theorem rBucketKey_any (b : List UInt8) (hb : b.length ≤ 140737488355328) (w : World) : Calls Tryz.prog 20 #[.string ⟨b.toArray⟩] w fun e w' => e = .returned (.string ⟨(bucketKeyL b).toArray⟩) ∧ w = w' := by
  have HB := Lib.hid (rBucket_any b hb w)
  obtain ⟨R, hR⟩ : ∃ R, Hid (bucketKeyL b = R) := ⟨_, rfl⟩
  rw [hR.out]
  cases hq : bucketB b with
  | false =>
    rw [hq] at HB
    have HF : Hid (R = []) := by show _ = _; rw [← hR.out]; unfold bucketKeyL; rw [hq]; rfl
    clear hq
    go_enter Tryz.func20, Tryz.ntmps20
    go_wp2_with fail
    refine HB.out.mono ?_
    rintro e w1 ⟨rfl, rfl⟩
    go_wp2
    go_ret
    rw [HF.out]
    exact ⟨rfl, rfl⟩
  | true =>
    rw [hq] at HB
    have HF : Hid (R = [98, 47] ++ b) := by show _ = _; rw [← hR.out]; unfold bucketKeyL; rw [if_pos hq]
    have hov : ¬ 9223372036854775807 < 2 + b.length := by omega
    clear hq
    go_enter Tryz.func20, Tryz.ntmps20
    go_wp2_with fail
    refine HB.out.mono ?_
    rintro e w1 ⟨rfl, rfl⟩
    go_wp2
    go_ret
    exact ⟨ret_str (by rw [HF.out, ← str_app]), rfl⟩

set_option maxHeartbeats 2000000 in
theorem rVersionKey_any (b k : List UInt8) (n : Int) (hb : b.length ≤ 140737488355328) (hk : k.length ≤ 140737488355328) (hn : IntOK n) (w : World) :
    Calls Tryz.prog 21 #[.string ⟨b.toArray⟩, .string ⟨k.toArray⟩, .int .i64 n] w fun e w' => e = .returned (.string ⟨(versionKeyL b k n).toArray⟩) ∧ w = w' := by
  have HB := Lib.hid (rBucket_any b hb w)
  have HS := Lib.hid (rSeq_any n w)
  have HN := Lib.hid (rNumber_any n hn w)
  obtain ⟨R, hR⟩ : ∃ R, Hid (versionKeyL b k n = R) := ⟨_, rfl⟩
  rw [hR.out]
  cases hq : bucketB b with
  | false =>
    rw [hq] at HB
    have HF : Hid (R = []) := by show _ = _; rw [← hR.out]; unfold versionKeyL; rw [if_neg (by rw [hq]; simp)]
    clear hq HS HN
    go_enter Tryz.func21, Tryz.ntmps21
    go_wp2_with fail
    refine HB.out.mono ?_
    rintro e w1 ⟨rfl, rfl⟩
    go_wp2
    go_ret
    rw [HF.out]
    exact ⟨rfl, rfl⟩
  | true =>
    rw [hq] at HB
    have hbl := (bucket_bytes hq).1
    by_cases hk1 : k.length < 1
    · have HF : Hid (R = []) := by show _ = _; rw [← hR.out]; unfold versionKeyL; rw [if_neg (by omega)]
      have hk1' : (k.length : Int) < 1 := by omega
      clear hq HS HN
      go_enter Tryz.func21, Tryz.ntmps21
      go_wp2_with fail
      refine HB.out.mono ?_
      rintro e w1 ⟨rfl, rfl⟩
      go_wp2
      go_ret
      rw [HF.out]
      exact ⟨rfl, rfl⟩
    · have hk1' : (1 : Int) ≤ (k.length : Int) := by omega
      by_cases hk2 : 100 < k.length
      · have HF : Hid (R = []) := by show _ = _; rw [← hR.out]; unfold versionKeyL; rw [if_neg (by omega)]
        have hk2' : (100 : Int) < (k.length : Int) := by omega
        clear hq hk1 HS HN
        go_enter Tryz.func21, Tryz.ntmps21
        go_wp2_with fail
        refine HB.out.mono ?_
        rintro e w1 ⟨rfl, rfl⟩
        go_wp2
        go_ret
        rw [HF.out]
        exact ⟨rfl, rfl⟩
      · have hk2' : (k.length : Int) ≤ 100 := by omega
        by_cases hr : 1 ≤ n ∧ n ≤ 9007199254740991
        · have hl := (numText_in (n := n) ⟨by omega, hr.2⟩).1
          have HF : Hid (R = [118, 47] ++ b ++ [47] ++ k ++ [47] ++ numText n) := by
            show _ = _; rw [← hR.out]; unfold versionKeyL; rw [if_pos ⟨hq, by omega, by omega⟩]; unfold keyL; rw [if_pos hr]
          rw [decide_eq_true hr] at HS
          generalize numText n = t at HN hl HF
          have n1 : ¬ 9223372036854775807 < 2 + b.length := by omega
          have n2 : ¬ 9223372036854775807 < 2 + b.length + 1 := by omega
          have n3 : ¬ 9223372036854775807 < 2 + b.length + 1 + k.length := by omega
          have n4 : ¬ 9223372036854775807 < 2 + b.length + 1 + k.length + 1 := by omega
          have n5 : ¬ 9223372036854775807 < 2 + b.length + 1 + k.length + 1 + t.length := by omega
          clear hq hk1 hk2 hr
          go_enter Tryz.func21, Tryz.ntmps21
          go_wp2_with fail
          refine HB.out.mono ?_
          rintro e w1 ⟨rfl, rfl⟩
          go_wp2_with fail
          refine HS.out.mono ?_
          rintro e w1 ⟨rfl, rfl⟩
          go_wp2_with fail
          refine HN.out.mono ?_
          rintro e w1 ⟨rfl, rfl⟩
          go_wp2
          go_ret
          refine ⟨ret_str ?_, rfl⟩
          rw [HF.out]
          simp only [← str_app]
        · have HF : Hid (R = []) := by
            show _ = _; rw [← hR.out]; unfold versionKeyL keyL; rw [if_neg hr]; split <;> rfl
          rw [decide_eq_false hr] at HS
          clear hq hk1 hk2 hr HN
          go_enter Tryz.func21, Tryz.ntmps21
          go_wp2_with fail
          refine HB.out.mono ?_
          rintro e w1 ⟨rfl, rfl⟩
          go_wp2_with fail
          refine HS.out.mono ?_
          rintro e w1 ⟨rfl, rfl⟩
          go_wp2
          go_ret
          rw [HF.out]
          exact ⟨rfl, rfl⟩

end Go.Proofs.YtajmkkjlhmeolaaGreatDoor
