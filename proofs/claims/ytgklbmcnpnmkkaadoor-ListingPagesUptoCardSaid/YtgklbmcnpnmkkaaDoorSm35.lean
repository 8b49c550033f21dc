/-
  SEVERAL SMALL TEXTS IN ONE.
-/
import Derived.Test.YtgklbmcnpnmkkaaDoorLsHexInt
import Derived.Test.YtgklbmcnpnmkkaaDoorLsNumP
import Derived.Test.YtgklbmcnpnmkkaaDoorLsUb64
import Derived.Test.YtgklbmcnpnmkkaaDoorLsIterP
/-
  meta.ReadNumber: the walk.
-/
namespace Go.Proofs.YtgklbmcnpnmkkaaDoor
open Go.RowKit

/-- what ReadNumber leaves -/
def NumRdOut (o : Option Int) (w : World) (e : Ending) (w' : World) : Prop := e = .returned (.tuple #[.int .i64 (o.getD 0), .bool o.isSome]) ∧ Below w.heap.size w w'

set_option maxHeartbeats 2000000 in
set_option maxRecDepth 100000 in
theorem readNumber_any (s : List UInt8) (w : World) (hg : Glob w) (hl : s.length ≤ 140737488355328) : Calls Tryd.prog 34 #[.string ⟨s.toArray⟩] w (NumRdOut (readNum s) w) := by
  have HG := Lib.hid hg
  cases hr : readNum s with
  | some n =>
    obtain ⟨hn, hs⟩ := readNum_some hr
    obtain ⟨h16, hlow, hval⟩ := numText_in hn
    rw [← hs] at h16 hlow hval
    have hpu := pu16_val s (by omega) hlow
    rw [hval] at hpu
    obtain ⟨c, r, rfl⟩ : ∃ c r, s = c :: r := by cases s with | nil => simp at h16 | cons c r => exact ⟨c, r, rfl⟩
    have hc := of_decide_eq_true (hlow c (by simp))
    have h43 : c ≠ 43 := fun e => by rw [e] at hc; have : (43 : UInt8).toNat = 43 := rfl; omega
    have h45 : c ≠ 45 := fun e => by rw [e] at hc; have : (45 : UInt8).toNat = 45 := rfl; omega
    have HP := Lib.hid (fun W => sParseInt16_good c r n h43 h45 hpu (by omega) (by simp at h16; omega) W)
    have HN := Lib.hid (fun W (hG : Glob W) => number_any n (by unfold IntOK; omega) W hG.tz)
    rw [← hs] at HN
    have HR : Hid (NumRdOut (some n) = fun w e w' => e = .returned (.tuple #[.int .i64 n, .bool true]) ∧ Below w.heap.size w w') := rfl
    clear hr hs hlow hval hpu hc h43 h45 h16 hn hg
    rw [HR.out]
    go_enter Tryd.func34, Tryd.ntmps34
    go_wp2_with fail
    refine (HP.out _).mono ?_
    rintro e w1 ⟨rfl, hb1⟩
    have B1 := Lib.hid hb1
    have G1 := Lib.hid (HG.out.later hb1)
    clear hb1
    go_wp2_with fail
    refine (HN.out _ G1.out).mono ?_
    rintro e w2 ⟨rfl, hb2⟩
    have B2 := Lib.hid (B1.out.trans (hb2.mono B1.out.size))
    clear hb2
    go_wp2
    go_ret2
    exact ⟨rfl, B2.out⟩
  | none =>
    have HP := Lib.hid (fun W hG => sParseInt16_any s hl W hG)
    have HNE : Hid (∀ v : Int, s ≠ [] → s ≠ numText v) := fun v hne e => by
      by_cases hv : 0 ≤ v ∧ v ≤ 9007199254740991
      · rw [e, readNum_text hv] at hr; cases hr
      · exact hne (by rw [e, numText_out hv])
    have HN := Lib.hid (fun v hv W (hG : Glob W) => number_any v hv W hG.tz)
    have HR : Hid (NumRdOut none = fun w e w' => e = .returned (.tuple #[.int .i64 0, .bool false]) ∧ Below w.heap.size w w') := rfl
    clear hr hg
    rw [HR.out]
    go_enter Tryd.func34, Tryd.ntmps34
    go_wp2_with fail
    refine (HP.out _ HG.out).mono ?_
    rintro e w1 ⟨he, hb1⟩
    have B1 := Lib.hid hb1
    have G1 := Lib.hid (HG.out.later hb1)
    clear hb1
    rcases he with ⟨v, hv, hne, rfl⟩ | ⟨v, N, rfl⟩
    · have HV := Lib.hid hv
      obtain ⟨T, hT⟩ : ∃ T, Hid (numText v = T) := ⟨_, rfl⟩
      have hx : (s == T) = false := by rw [beq_eq_false_iff_ne, ← hT.out]; exact HNE.out v hne
      have HN2 : Hid (∀ W, Glob W → Calls Tryd.prog 31 #[.int .i64 v] W fun e w' => e = .returned (.string ⟨T.toArray⟩) ∧ Below W.heap.size W w') := by rw [← hT.out]; exact fun W hG => HN.out v HV.out W hG
      clear hv hne
      go_wp2_with fail
      refine (HN2.out _ G1.out).mono ?_
      rintro e w2 ⟨rfl, hb2⟩
      have B2 := Lib.hid (B1.out.trans (hb2.mono B1.out.size))
      clear hb2
      go_wp2
      go_ret2
      exact ⟨rfl, B2.out⟩
    · go_wp2
      go_ret2
      exact ⟨rfl, B1.out⟩

end Go.Proofs.YtgklbmcnpnmkkaaDoor

/-
  listing.Token, listing.ReadToken: tokenL, readTok.
-/
namespace Go.Proofs.YtgklbmcnpnmkkaaDoor
open Go.RowKit Go.Lib

/-- a place as it is told -/
def tokenL (after : List UInt8) (n : Int) : List UInt8 := if numText n = [] then [] else enc64 (numText n ++ after)
/-- a place as it is read -/
def readTok (s : List UInt8) : Option (List UInt8 × Int) :=
  match dec64 s with
  | none => none
  | some t => if t.length < 16 then none else match readNum (t.take 16) with
    | none => none
    | some n => some (t.drop 16, n)
theorem numText_16 (n : Int) : numText n = [] ∨ (numText n).length = 16 := by
  by_cases h : 0 ≤ n ∧ n ≤ 9007199254740991
  · exact .inr (numText_in h).1
  · exact .inl (numText_out h)

def TokOut (after : List UInt8) (n : Int) (w : World) (e : Ending) (w' : World) : Prop := e = .returned (.string ⟨(tokenL after n).toArray⟩) ∧ Below w.heap.size w w'
def RdTokOut (s : List UInt8) (w : World) (e : Ending) (w' : World) : Prop :=
  e = .returned (match readTok s with
    | some (t, n) => .tuple #[.string ⟨t.toArray⟩, .int .i64 n, .int .i64 0]
    | none => .tuple #[.string ⟨#[]⟩, .int .i64 0, .int .i64 1]) ∧ Below w.heap.size w w'

set_option maxHeartbeats 4000000 in
set_option maxRecDepth 100000 in
theorem token_any (s : List UInt8) (n : Int) (hn : IntOK n) (w : World) (hg : Glob w) (hl : s.length ≤ 140737488355300) : Calls Tryd.prog 13 #[.string ⟨s.toArray⟩, .int .i64 n] w (TokOut s n w) := by
  have HN := Lib.hid (fun W (hG : Glob W) => number_any n hn W hG.tz)
  have HG := Lib.hid hg
  have HT : Hid (tokenL s n = if numText n = [] then [] else enc64 (numText n ++ s)) := rfl
  have h16 := numText_16 n
  clear hg
  go_enter Tryd.func13, Tryd.ntmps13
  go_wp2_with fail
  refine (HN.out _ HG.out).mono ?_
  rintro e w1 ⟨rfl, hb1⟩
  have B1 := Lib.hid hb1
  clear hb1
  obtain ⟨x, hx⟩ : ∃ x, numText n = x := ⟨_, rfl⟩
  rw [hx] at HT h16
  rw [hx]
  cases x with
  | nil =>
    go_wp2_with fail
    go_ret
    exact ⟨by rw [HT.out]; rfl, B1.out⟩
  | cons c r =>
    have hsum : ¬ 9223372036854775807 < r.length + 1 + s.length := by simp at h16; omega
    have HB := Lib.hid (fun W => base64_any (c :: (r ++ s)) W (by simp at h16 ⊢; omega))
    have hcat : (⟨(c :: r).toArray⟩ : ByteArray) ++ ⟨s.toArray⟩ = ⟨(c :: r ++ s).toArray⟩ := by
      apply ByteArray.ext
      rw [ByteArray.data_append]
      simp
    have hne : (⟨(c :: r).toArray⟩ : ByteArray) ≠ ⟨#[]⟩ := by simp
    go_wp2_with fail
    refine (HB.out _).mono ?_
    rintro e w2 ⟨rfl, hb2⟩
    have B2 := Lib.hid (B1.out.trans (hb2.mono B1.out.size))
    go_wp2_with fail
    go_ret
    exact ⟨by rw [HT.out, if_neg (by simp)]; rfl, B2.out⟩

theorem dec4_len {last : Bool} {x y z t : UInt8} {a : List UInt8} (h : dec4 last x y z t = some a) : a.length ≤ 3 := by
  unfold dec4 at h
  split at h
  · split at h
    · split at h
      · cases h; simp
      · split at h
        · cases h; simp
        · cases h
    · split at h
      · cases h; simp
      · cases h
  · cases h
theorem dec64_len : ∀ (s t : List UInt8), dec64 s = some t → t.length ≤ s.length
  | [], t, h => by rw [show dec64 [] = some [] from rfl] at h; cases h; simp
  | [_], _, h => by simp [dec64] at h
  | [_, _], _, h => by simp [dec64] at h
  | [_, _, _], _, h => by simp [dec64] at h
  | x :: y :: z :: t :: l, u, h => by
    unfold dec64 at h
    split at h
    · rename_i a b ha hb
      cases h
      have h1 := dec4_len ha
      have h2 := dec64_len l b hb
      simp only [List.length_append, List.length_cons]
      omega
    · cases h

theorem readTok_none {s : List UInt8} (h : dec64 s = none) : readTok s = none := by unfold readTok; rw [h]
theorem readTok_short {s t : List UInt8} (h : dec64 s = some t) (ht : t.length < 16) : readTok s = none := by unfold readTok; rw [h]; exact if_pos ht
theorem readTok_long {s t : List UInt8} (h : dec64 s = some t) (ht : ¬ t.length < 16) : readTok s = (readNum (t.take 16)).map fun n => (t.drop 16, n) := by
  unfold readTok
  rw [h]
  refine (if_neg ht).trans ?_
  cases readNum (t.take 16) <;> rfl

set_option maxHeartbeats 4000000 in
set_option maxRecDepth 100000 in
theorem readToken_any (s : List UInt8) (w : World) (hg : Glob w) (hl : s.length ≤ 200000000000000) : Calls Tryd.prog 14 #[.string ⟨s.toArray⟩] w (RdTokOut s w) := by
  have HU := Lib.hid (fun W => unbase64_any s W (by omega))
  have HG := Lib.hid hg
  have HLen := Lib.hid (dec64_len s)
  clear hg
  go_enter Tryd.func14, Tryd.ntmps14
  go_wp2_with fail
  refine (HU.out _).mono ?_
  rintro e w1 ⟨he, hb1⟩
  have B1 := Lib.hid hb1
  clear hb1
  cases hd : dec64 s with
  | none =>
    rw [hd] at he
    obtain ⟨i, rfl⟩ := he
    have HT := Lib.hid (readTok_none hd)
    clear hd
    go_wp2_with fail
    refine bodyPost_ret (results_tmp3 rfl _ _ _) rfl ?_
    refine ⟨?_, B1.out⟩
    rw [HT.out]
    rfl
  | some t =>
    rw [hd] at he
    subst he
    have htl := HLen.out t hd
    by_cases h16 : t.length < 16
    · have HT := Lib.hid (readTok_short hd h16)
      clear hd
      have h16z : (t.length : Int) < 16 := by omega
      go_wp2_with fail
      refine bodyPost_ret (results_tmp3 rfl _ _ _) rfl ?_
      refine ⟨?_, B1.out⟩
      rw [HT.out]
      rfl
    · have HT := Lib.hid (readTok_long hd h16)
      clear hd
      have h16z : ¬ (t.length : Int) < 16 := by omega
      have hx1 := extract_takeL t 16
      have hx2 := extractL_drop t 16
      have G1 := Lib.hid (HG.out.later B1.out)
      have HR := Lib.hid (fun W (hG : Glob W) => readNumber_any (t.take 16) W hG (by rw [List.length_take]; omega))
      go_wp2_with fail
      refine (HR.out _ G1.out).mono ?_
      rintro e w2 ⟨he, hb2⟩
      have B2 := Lib.hid (B1.out.trans (hb2.mono B1.out.size))
      clear hb2
      cases hn : readNum (t.take 16) with
      | none =>
        rw [hn] at he HT
        subst he
        clear hn
        go_wp2_with fail
        refine bodyPost_ret (results_tmp3 rfl _ _ _) rfl ?_
        refine ⟨?_, B2.out⟩
        rw [HT.out]
        rfl
      | some n =>
        rw [hn] at he HT
        subst he
        clear hn
        go_wp2_with fail
        refine bodyPost_ret (results_tmp3 rfl _ _ _) rfl ?_
        refine ⟨?_, B2.out⟩
        rw [HT.out]
        rfl
end Go.Proofs.YtgklbmcnpnmkkaaDoor
