/-
  SEVERAL SMALL TEXTS IN ONE.
-/
import Derived.Test.YtajmkkjlhmeolaaGreatDoorSm25
import Derived.Test.YtajmkkjlhmeolaaGreatDoorMtBucketP
/-
  storehouseref19: the keys that stand on a number alone.
-/
namespace Go.Proofs.YtajmkkjlhmeolaaGreatDoor
open Go.RowKit Go.Lib

theorem rSeq_any (n : Int) (w : World) : Calls Tryz.prog 57 #[.int .i64 n] w fun e w' => e = .returned (.bool (decide (1 ≤ n ∧ n ≤ 9007199254740991))) ∧ w = w' := by
  by_cases h1 : 1 ≤ n
  · by_cases h2 : n ≤ 9007199254740991
    · rw [decide_eq_true ⟨h1, h2⟩]
      go_enter Tryz.func57, Tryz.ntmps57
      go_wp2
      go_ret
      exact ⟨rfl, rfl⟩
    · rw [decide_eq_false (fun h => h2 h.2)]
      go_enter Tryz.func57, Tryz.ntmps57
      go_wp2
      go_ret
      exact ⟨rfl, rfl⟩
  · rw [decide_eq_false (fun h => h1 h.1)]
    go_enter Tryz.func57, Tryz.ntmps57
    go_wp2
    go_ret
    exact ⟨rfl, rfl⟩

set_option maxHeartbeats 1000000 in
theorem rUploadKey_any (n : Int) (hn : IntOK n) (w : World) : Calls Tryz.prog 22 #[.int .i64 n] w fun e w' => e = .returned (.string ⟨(keyL [117, 47] n).toArray⟩) ∧ w = w' := by
  have HS := Lib.hid (rSeq_any n w)
  have HN := Lib.hid (rNumber_any n hn w)
  unfold keyL
  by_cases h : 1 ≤ n ∧ n ≤ 9007199254740991
  · have hl := (numText_in (n := n) ⟨by omega, h.2⟩).1
    rw [decide_eq_true h] at HS
    rw [if_pos h]
    generalize numText n = t at HN hl ⊢
    have g : ¬ 9223372036854775807 < 2 + t.length := by omega
    clear h hn
    go_enter Tryz.func22, Tryz.ntmps22
    go_wp2_with fail
    refine HS.out.mono ?_
    rintro e w1 ⟨rfl, rfl⟩
    go_wp2_with fail
    refine HN.out.mono ?_
    rintro e w1 ⟨rfl, rfl⟩
    go_wp2
    go_ret
    exact ⟨ret_str (str_app _ t), rfl⟩
  · rw [decide_eq_false h] at HS
    rw [if_neg h]
    clear h hn
    go_enter Tryz.func22, Tryz.ntmps22
    go_wp2_with fail
    refine HS.out.mono ?_
    rintro e w1 ⟨rfl, rfl⟩
    go_wp2
    go_ret
    exact ⟨rfl, rfl⟩

set_option maxHeartbeats 1000000 in
theorem rBlobKey_any (n : Int) (hn : IntOK n) (w : World) : Calls Tryz.prog 25 #[.int .i64 n] w fun e w' => e = .returned (.string ⟨(keyL [100, 47] n).toArray⟩) ∧ w = w' := by
  have HS := Lib.hid (rSeq_any n w)
  have HN := Lib.hid (rNumber_any n hn w)
  unfold keyL
  by_cases h : 1 ≤ n ∧ n ≤ 9007199254740991
  · have hl := (numText_in (n := n) ⟨by omega, h.2⟩).1
    rw [decide_eq_true h] at HS
    rw [if_pos h]
    generalize numText n = t at HN hl ⊢
    have g : ¬ 9223372036854775807 < 2 + t.length := by omega
    clear h hn
    go_enter Tryz.func25, Tryz.ntmps25
    go_wp2_with fail
    refine HS.out.mono ?_
    rintro e w1 ⟨rfl, rfl⟩
    go_wp2_with fail
    refine HN.out.mono ?_
    rintro e w1 ⟨rfl, rfl⟩
    go_wp2
    go_ret
    exact ⟨ret_str (str_app _ t), rfl⟩
  · rw [decide_eq_false h] at HS
    rw [if_neg h]
    clear h hn
    go_enter Tryz.func25, Tryz.ntmps25
    go_wp2_with fail
    refine HS.out.mono ?_
    rintro e w1 ⟨rfl, rfl⟩
    go_wp2
    go_ret
    exact ⟨rfl, rfl⟩

end Go.Proofs.YtajmkkjlhmeolaaGreatDoor

/-
  storehouseref13.Bucket: what it asks, byte by byte, is what bucketB asks (plain).
-/
namespace Go.Proofs.YtajmkkjlhmeolaaGreatDoor
open Go.Lib

/-- a small letter or a digit -/
def sdB (c : UInt8) : Bool := decide ((97 ≤ c.toNat ∧ c.toNat ≤ 122) ∨ (48 ≤ c.toNat ∧ c.toNat ≤ 57))
theorem okB_sd (c : UInt8) : okB c = (sdB c || c == 45) := by
  have h45 : (c == 45) = decide (c.toNat = 45) := by
    rw [Bool.eq_iff_iff, beq_iff_eq, decide_eq_true_iff]
    exact ⟨fun h => by rw [h]; rfl, fun h => UInt8.toNat_inj.1 h⟩
  unfold okB sdB
  rw [h45, ← Bool.decide_or]
  congr 1
  rw [or_assoc]
theorem sd_45 : sdB 45 = false := by decide
theorem sd_46 : sdB 46 = false := by decide
/-- may b stand behind q? -/
def pairB (q : Option UInt8) (b : UInt8) : Bool := match q with
  | none => true
  | some q => !((b == 46 && (q == 46 || q == 45)) || (b == 45 && q == 46))
/-- the byte b, behind q; is it the last? -/
def chkB (q : Option UInt8) (b : UInt8) (last : Bool) : Bool := (okB b || b == 46) && (!(q.isNone || last) || sdB b) && pairB q b
def scanB : Option UInt8 → List UInt8 → Bool
  | _, [] => true
  | q, b :: r => chkB q b r.isEmpty && scanB (some b) r

theorem some_bne (a b : UInt8) : (some a != some b) = !(a == b) := rfl
/-- what is asked of the label that begins here, and of those behind it -/
def restB (p : UInt8) (x : List UInt8) (ls : List (List UInt8)) : Bool :=
  (if x.isEmpty then ls.isEmpty || !(p == 46 || p == 45) else x.all okB && x.getLast? != some 45 && !(p == 46 && x.head? == some 45)) && ls.all labelB

theorem labels_nil {l : List UInt8} (h : labels l = [[]]) : l = [] := by
  cases l with
  | nil => rfl
  | cons c r =>
    exfalso
    simp only [labels] at h
    split at h
    · simp at h; exact labels_ne r h
    · split at h <;> simp at h

theorem scan_some : ∀ (l : List UInt8) (p : UInt8) (x : List UInt8) (ls : List (List UInt8)), labels l = x :: ls → scanB (some p) l = restB p x ls
  | [], p, x, ls, h => by
    simp only [labels, List.cons.injEq] at h
    obtain ⟨rfl, rfl⟩ := h
    simp [scanB, restB]
  | c :: r, p, x, ls, h => by
    obtain ⟨y, ms, hy⟩ : ∃ y ms, labels r = y :: ms := by
      cases hr : labels r with
      | nil => exact absurd hr (labels_ne r)
      | cons y ms => exact ⟨y, ms, rfl⟩
    have ih := scan_some r c y ms hy
    have hnil : r.isEmpty = (y.isEmpty && ms.isEmpty) := by
      cases hr : r with
      | nil => rw [hr] at hy; simp only [labels, List.cons.injEq] at hy; obtain ⟨rfl, rfl⟩ := hy; rfl
      | cons a b =>
        rw [List.isEmpty_cons]
        cases y with
        | cons _ _ => rfl
        | nil => cases ms with
          | cons _ _ => rfl
          | nil => rw [labels_nil hy] at hr; cases hr
    simp only [scanB, chkB, pairB, Option.isNone_some, Bool.false_or, ih, hnil]
    simp only [labels] at h
    by_cases h46 : c = 46
    · subst h46
      rw [if_pos rfl, hy] at h
      simp only [List.cons.injEq] at h
      obtain ⟨rfl, rfl⟩ := h
      have hok : okB 46 = false := by decide
      simp only [restB, hok, sd_46, labelB, List.isEmpty_nil, List.all_cons]
      cases y with
      | nil => cases ms <;> simp
      | cons a b =>
        simp only [List.isEmpty_cons]
        by_cases hp : p = 46 <;> by_cases hp' : p = 45 <;> simp [hp, hp', some_bne, Bool.and_comm, Bool.and_left_comm] <;> ac_rfl
    · rw [if_neg h46, hy] at h
      simp only [List.cons.injEq] at h
      obtain ⟨rfl, rfl⟩ := h
      have hc46 : (c == 46) = false := by rw [beq_eq_false_iff_ne]; exact h46
      simp only [restB, hc46, Bool.false_and, Bool.or_false, Bool.false_or, List.isEmpty_cons, List.all_cons, List.head?_cons]
      rw [okB_sd c]
      by_cases h45 : c = 45
      · subst h45
        rw [sd_45]
        cases y with
        | nil => cases ms <;> by_cases hp : p = 46 <;> simp [hp]
        | cons a b => by_cases hp : p = 46 <;> simp [hp, some_bne, List.getLast?_cons_cons, Bool.and_comm, Bool.and_left_comm]
      · have hc45 : (c == 45) = false := by rw [beq_eq_false_iff_ne]; exact h45
        cases y with
        | nil => cases ms <;> simp [hc45, some_bne]
        | cons a b =>
          simp [hc45, some_bne, List.getLast?_cons_cons]
          try ac_rfl

theorem scan_none {s : List UInt8} (h : s ≠ []) : scanB none s = (labels s).all labelB := by
  cases s with
  | nil => exact absurd rfl h
  | cons c r =>
    obtain ⟨y, ms, hy⟩ : ∃ y ms, labels r = y :: ms := by
      cases hr : labels r with
      | nil => exact absurd hr (labels_ne r)
      | cons y ms => exact ⟨y, ms, rfl⟩
    have ih := scan_some r c y ms hy
    simp only [scanB, chkB, pairB, Option.isNone_none, Bool.true_or, Bool.not_true, Bool.false_or, Bool.and_true, ih, labels]
    by_cases h46 : c = 46
    · subst h46
      rw [if_pos rfl, sd_46]
      simp [labelB]
    · rw [if_neg h46, hy]
      have hc46 : (c == 46) = false := by rw [beq_eq_false_iff_ne]; exact h46
      simp only [restB, hc46, Bool.or_false, Bool.false_and, List.all_cons, labelB, List.isEmpty_cons, List.head?_cons, Bool.false_or]
      rw [okB_sd c]
      by_cases h45 : c = 45
      · subst h45
        rw [sd_45]
        simp
      · have hc45 : (c == 45) = false := by rw [beq_eq_false_iff_ne]; exact h45
        cases y with
        | nil => simp [hc45, some_bne]
        | cons a b =>
          simp [hc45, some_bne, List.getLast?_cons_cons]
          try ac_rfl

theorem labels_length (s : List UInt8) : (labels s).length = s.count 46 + 1 := by
  induction s with
  | nil => rfl
  | cons c r ih =>
    simp only [labels]
    by_cases h : c = 46
    · subst h; simp [ih]
    · rw [if_neg h]
      cases hr : labels r with
      | nil => exact absurd hr (labels_ne r)
      | cons y ms =>
        rw [hr] at ih
        simp only [List.length_cons] at ih ⊢
        rw [ih, List.count_cons_of_ne (by simpa using h)]
def ddB (c : UInt8) : Bool := decide (48 ≤ c.toNat ∧ c.toNat ≤ 57) || c == 46
theorem labels_dig (s : List UInt8) : (labels s).all digB = s.all ddB := by
  induction s with
  | nil => rfl
  | cons c r ih =>
    simp only [labels]
    by_cases h : c = 46
    · subst h; simp [ih, digB, ddB]
    · rw [if_neg h]
      cases hr : labels r with
      | nil => exact absurd hr (labels_ne r)
      | cons y ms =>
        rw [hr] at ih
        have hc : (c == 46) = false := by rw [beq_eq_false_iff_ne]; exact h
        simp only [List.all_cons, ← ih, digB, ddB, hc, Bool.or_false, Bool.and_assoc]
theorem bucketB_scan {s : List UInt8} (h : 3 ≤ s.length ∧ s.length ≤ 63) : bucketB s = (scanB none s && (!s.all ddB || s.count 46 != 3)) := by
  unfold bucketB
  rw [decide_eq_true h, Bool.true_and, ← scan_none (by intro e; rw [e] at h; simp at h), labels_length, ← labels_dig]
  congr 1
  have e1 : decide ((labels s).countP digB < s.count 46 + 1) = !(labels s).all digB := by
    rw [← labels_length, Bool.eq_iff_iff, decide_eq_true_iff, Bool.not_eq_true', ← Bool.not_eq_true, List.all_eq_true, ← List.countP_eq_length]
    have := List.countP_le_length (p := digB) (l := labels s)
    omega
  rw [e1]
  congr 1
  rw [Bool.eq_iff_iff, bne_iff_ne, bne_iff_ne]
  omega

end Go.Proofs.YtajmkkjlhmeolaaGreatDoor
