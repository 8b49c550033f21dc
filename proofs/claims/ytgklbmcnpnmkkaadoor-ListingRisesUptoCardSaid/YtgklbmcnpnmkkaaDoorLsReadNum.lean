/-
  meta.ReadNumber: the walk.
-/
import Derived.Test.YtgklbmcnpnmkkaaDoorLsHexInt
import Derived.Test.YtgklbmcnpnmkkaaDoorLsNumP
namespace Go.Proofs.YtgklbmcnpnmkkaaDoor
open Go.RowKit

/-- what ReadNumber leaves -/
def NumRdOut (o : Option Int) (w : World) (e : Ending) (w' : World) : Prop := e = .returned (.tuple #[.int .i64 (o.getD 0), .bool o.isSome]) ∧ Below w.heap.size w w'

set_option maxHeartbeats 2000000 in
set_option maxRecDepth 100000 in
theorem readNumber_any (s : List UInt8) (w : World) (hg : Glob w) (hl : s.length ≤ 140737488355328) : Calls Tryd.prog 34 #[.string ⟨s.toArray⟩] w (NumRdOut (readNum s) w) := by
  have HG := Lib.hid hg
  cases hr : readNum s with
  | some n =>
    obtain ⟨hn, hs⟩ := readNum_some hr
    obtain ⟨h16, hlow, hval⟩ := numText_in hn
    rw [← hs] at h16 hlow hval
    have hpu := pu16_val s (by omega) hlow
    rw [hval] at hpu
    obtain ⟨c, r, rfl⟩ : ∃ c r, s = c :: r := by cases s with | nil => simp at h16 | cons c r => exact ⟨c, r, rfl⟩
    have hc := of_decide_eq_true (hlow c (by simp))
    have h43 : c ≠ 43 := fun e => by rw [e] at hc; have : (43 : UInt8).toNat = 43 := rfl; omega
    have h45 : c ≠ 45 := fun e => by rw [e] at hc; have : (45 : UInt8).toNat = 45 := rfl; omega
    have HP := Lib.hid (fun W => sParseInt16_good c r n h43 h45 hpu (by omega) (by simp at h16; omega) W)
    have HN := Lib.hid (fun W (hG : Glob W) => number_any n (by unfold IntOK; omega) W hG.tz)
    rw [← hs] at HN
    have HR : Hid (NumRdOut (some n) = fun w e w' => e = .returned (.tuple #[.int .i64 n, .bool true]) ∧ Below w.heap.size w w') := rfl
    clear hr hs hlow hval hpu hc h43 h45 h16 hn hg
    rw [HR.out]
    go_enter Tryd.func34, Tryd.ntmps34
    go_wp2_with fail
    refine (HP.out _).mono ?_
    rintro e w1 ⟨rfl, hb1⟩
    have B1 := Lib.hid hb1
    have G1 := Lib.hid (HG.out.later hb1)
    clear hb1
    go_wp2_with fail
    refine (HN.out _ G1.out).mono ?_
    rintro e w2 ⟨rfl, hb2⟩
    have B2 := Lib.hid (B1.out.trans (hb2.mono B1.out.size))
    clear hb2
    go_wp2
    go_ret2
    exact ⟨rfl, B2.out⟩
  | none =>
    have HP := Lib.hid (fun W hG => sParseInt16_any s hl W hG)
    have HNE : Hid (∀ v : Int, s ≠ [] → s ≠ numText v) := fun v hne e => by
      by_cases hv : 0 ≤ v ∧ v ≤ 9007199254740991
      · rw [e, readNum_text hv] at hr; cases hr
      · exact hne (by rw [e, numText_out hv])
    have HN := Lib.hid (fun v hv W (hG : Glob W) => number_any v hv W hG.tz)
    have HR : Hid (NumRdOut none = fun w e w' => e = .returned (.tuple #[.int .i64 0, .bool false]) ∧ Below w.heap.size w w') := rfl
    clear hr hg
    rw [HR.out]
    go_enter Tryd.func34, Tryd.ntmps34
    go_wp2_with fail
    refine (HP.out _ HG.out).mono ?_
    rintro e w1 ⟨he, hb1⟩
    have B1 := Lib.hid hb1
    have G1 := Lib.hid (HG.out.later hb1)
    clear hb1
    rcases he with ⟨v, hv, hne, rfl⟩ | ⟨v, N, rfl⟩
    · have HV := Lib.hid hv
      obtain ⟨T, hT⟩ : ∃ T, Hid (numText v = T) := ⟨_, rfl⟩
      have hx : (s == T) = false := by rw [beq_eq_false_iff_ne, ← hT.out]; exact HNE.out v hne
      have HN2 : Hid (∀ W, Glob W → Calls Tryd.prog 31 #[.int .i64 v] W fun e w' => e = .returned (.string ⟨T.toArray⟩) ∧ Below W.heap.size W w') := by rw [← hT.out]; exact fun W hG => HN.out v HV.out W hG
      clear hv hne
      go_wp2_with fail
      refine (HN2.out _ G1.out).mono ?_
      rintro e w2 ⟨rfl, hb2⟩
      have B2 := Lib.hid (B1.out.trans (hb2.mono B1.out.size))
      clear hb2
      go_wp2
      go_ret2
      exact ⟨rfl, B2.out⟩
    · go_wp2
      go_ret2
      exact ⟨rfl, B1.out⟩

end Go.Proofs.YtgklbmcnpnmkkaaDoor
