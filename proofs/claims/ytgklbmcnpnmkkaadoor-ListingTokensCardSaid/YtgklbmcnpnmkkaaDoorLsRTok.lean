/-
  storehouseref20.Token, ReadToken: tokenL, readTok.
-/
import Derived.Test.YtgklbmcnpnmkkaaDoorLsTok
import Derived.Test.YtgklbmcnpnmkkaaDoorLsRB64
import Derived.Test.YtgklbmcnpnmkkaaDoorLsRUb64
import Derived.Test.YtgklbmcnpnmkkaaDoorLsRNum
import Derived.Test.YtgklbmcnpnmkkaaDoorLsRReadNum
namespace Go.Proofs.YtgklbmcnpnmkkaaDoor
open Go.RowKit Go.Lib

def RRdTokOut (s : List UInt8) (w : World) (e : Ending) (w' : World) : Prop :=
  e = .returned (match readTok s with
    | some (t, n) => .tuple #[.string ⟨t.toArray⟩, .int .i64 n, .bool true]
    | none => .tuple #[.string ⟨#[]⟩, .int .i64 0, .bool false]) ∧ Below w.heap.size w w'

set_option maxHeartbeats 4000000 in
set_option maxRecDepth 100000 in
theorem rToken_any (s : List UInt8) (n : Int) (hn : IntOK n) (w : World) (hl : s.length ≤ 140737488355300) : Calls Tryd.prog 16 #[.string ⟨s.toArray⟩, .int .i64 n] w (TokOut s n w) := by
  have HN := Lib.hid (fun W => rNumber_any n hn W)
  have HT : Hid (tokenL s n = if numText n = [] then [] else enc64 (numText n ++ s)) := rfl
  have h16 := numText_16 n
  go_enter Tryd.func16, Tryd.ntmps16
  go_wp2_with fail
  refine (HN.out _).mono ?_
  rintro e w1 ⟨rfl, rfl⟩
  have B1 : Hid (Below w.heap.size w w) := Below.refl _ _
  obtain ⟨x, hx⟩ : ∃ x, numText n = x := ⟨_, rfl⟩
  rw [hx] at HT h16
  rw [hx]
  cases x with
  | nil =>
    go_wp2_with fail
    go_ret
    exact ⟨by rw [HT.out]; rfl, B1.out⟩
  | cons c r =>
    have hsum : ¬ 9223372036854775807 < r.length + 1 + s.length := by simp at h16; omega
    have HB := Lib.hid (fun W => rBase64_any (c :: (r ++ s)) W (by simp at h16 ⊢; omega))
    have hcat : (⟨(c :: r).toArray⟩ : ByteArray) ++ ⟨s.toArray⟩ = ⟨(c :: r ++ s).toArray⟩ := by
      apply ByteArray.ext
      rw [ByteArray.data_append]
      simp
    have hne : (⟨(c :: r).toArray⟩ : ByteArray) ≠ ⟨#[]⟩ := by simp
    go_wp2_with fail
    refine (HB.out _).mono ?_
    rintro e w2 ⟨rfl, hb2⟩
    have B2 := Lib.hid (B1.out.trans (hb2.mono B1.out.size))
    go_wp2_with fail
    go_ret
    exact ⟨by rw [HT.out, if_neg (by simp)]; rfl, B2.out⟩

set_option maxHeartbeats 4000000 in
set_option maxRecDepth 100000 in
theorem rReadToken_any (s : List UInt8) (w : World) (hl : s.length ≤ 200000000000000) : Calls Tryd.prog 15 #[.string ⟨s.toArray⟩] w (RRdTokOut s w) := by
  have HU := Lib.hid (fun W => rUnbase64_any s W (by omega))
  have HLen := Lib.hid (dec64_len s)
  go_enter Tryd.func15, Tryd.ntmps15
  go_wp2_with fail
  refine (HU.out _).mono ?_
  rintro e w1 ⟨he, hb1⟩
  have B1 := Lib.hid hb1
  clear hb1
  cases hd : dec64 s with
  | none =>
    rw [hd] at he
    obtain ⟨i, rfl⟩ := he
    have HT := Lib.hid (readTok_none hd)
    clear hd
    go_wp2_with fail
    refine bodyPost_ret (results_tmp3 rfl _ _ _) rfl ?_
    refine ⟨?_, B1.out⟩
    rw [HT.out]
    rfl
  | some t =>
    rw [hd] at he
    subst he
    have htl := HLen.out t hd
    by_cases h16 : t.length < 16
    · have HT := Lib.hid (readTok_short hd h16)
      clear hd
      have h16z : (t.length : Int) < 16 := by omega
      go_wp2_with fail
      refine bodyPost_ret (results_tmp3 rfl _ _ _) rfl ?_
      refine ⟨?_, B1.out⟩
      rw [HT.out]
      rfl
    · have HT := Lib.hid (readTok_long hd h16)
      clear hd
      have h16z : ¬ (t.length : Int) < 16 := by omega
      have hx1 := extract_takeL t 16
      have hx2 := extractL_drop t 16
      have HR := Lib.hid (fun W => rReadNumber_any (t.take 16) W (by rw [List.length_take]; omega))
      go_wp2_with fail
      refine (HR.out _).mono ?_
      rintro e w2 ⟨he, q2, rfl⟩
      have B2 := Lib.hid (below_drewN B1.out q2)
      cases hn : readNum (t.take 16) with
      | none =>
        rw [hn] at he HT
        subst he
        clear hn
        go_wp2_with fail
        refine bodyPost_ret (results_tmp3 rfl _ _ _) rfl ?_
        refine ⟨?_, B2.out⟩
        rw [HT.out]
        rfl
      | some n =>
        rw [hn] at he HT
        subst he
        clear hn
        go_wp2_with fail
        refine bodyPost_ret (results_tmp3 rfl _ _ _) rfl ?_
        refine ⟨?_, B2.out⟩
        rw [HT.out]
        rfl
end Go.Proofs.YtgklbmcnpnmkkaaDoor
