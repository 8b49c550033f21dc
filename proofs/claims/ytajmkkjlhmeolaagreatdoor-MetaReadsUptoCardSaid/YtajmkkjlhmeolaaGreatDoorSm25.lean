/-
  SEVERAL SMALL TEXTS IN ONE.
-/
import Derived.Test.YtajmkkjlhmeolaaGreatDoorSm24
import Derived.Test.YtajmkkjlhmeolaaGreatDoorMtBucketP
/-
  storehouseref19.ReadNumber: it is readNum.
-/
namespace Go.Proofs.YtajmkkjlhmeolaaGreatDoor
open Go.RowKit Go.Lib Go.PlainAid

abbrev hexTab : ByteArray := ⟨#[48, 49, 50, 51, 52, 53, 54, 55, 56, 57, 97, 98, 99, 100, 101, 102]⟩
theorem hexTab_at : ∀ j : Nat, (h : j < 16) → (hexTab[j]'h) = hexD j := by
  intro j h
  have : j = 0 ∨ j = 1 ∨ j = 2 ∨ j = 3 ∨ j = 4 ∨ j = 5 ∨ j = 6 ∨ j = 7 ∨ j = 8 ∨ j = 9 ∨ j = 10 ∨ j = 11 ∨ j = 12 ∨ j = 13 ∨ j = 14 ∨ j = 15 := by omega
  rcases this with rfl | rfl | rfl | rfl | rfl | rfl | rfl | rfl | rfl | rfl | rfl | rfl | rfl | rfl | rfl | rfl <;> rfl
/-- what is found so far: below 0, or the sixteenth -/
def FoundIn (c : UInt8) (k : Nat) (d : Int) : Prop := (d = -1 ∧ ∀ j, j < k → hexD j ≠ c) ∨ (∃ j : Nat, j < k ∧ d = j ∧ hexD j = c)
theorem FoundIn.step {c : UInt8} {k : Nat} {d : Int} (h : FoundIn c k d) (hn : hexD k ≠ c) : FoundIn c (k + 1) d := by
  rcases h with ⟨h1, h2⟩ | ⟨j, h1, h2, h3⟩
  · refine .inl ⟨h1, fun j hj => ?_⟩
    by_cases h : j = k
    · subst h; exact hn
    · exact h2 j (by omega)
  · exact .inr ⟨j, by omega, h2, h3⟩
theorem FoundIn.hit {c : UInt8} {k : Nat} (hn : hexD k = c) : FoundIn c (k + 1) (k : Int) := .inr ⟨k, by omega, rfl, hn⟩
theorem hexLow_hexD {c : UInt8} (h : hexLow c = true) : ∃ j : Nat, j < 16 ∧ hexD j = c := by
  have h' := of_decide_eq_true h
  have hl := hxd_lt h
  refine ⟨(hxd c).toNat, by omega, ?_⟩
  have hd := hexD_low (hxd c).toNat (by omega)
  exact hxd_inj hd.1 h (by rw [hd.2]; omega)
theorem FoundIn.done {c : UInt8} {d : Int} (h : FoundIn c 16 d) : (d = -1 ∧ hexLow c = false) ∨ (0 ≤ d ∧ d < 16 ∧ hexLow c = true ∧ d = hxd c) := by
  rcases h with ⟨h1, h2⟩ | ⟨j, h1, h2, h3⟩
  · left
    refine ⟨h1, ?_⟩
    cases hc : hexLow c with
    | false => rfl
    | true =>
      obtain ⟨j, hj, e⟩ := hexLow_hexD hc
      exact absurd e (h2 j hj)
  · right
    have hd := hexD_low j h1
    subst h3
    exact ⟨by omega, by omega, hd.1, by rw [hd.2, h2]⟩

theorem readNum_bad {s : List UInt8} {c : UInt8} (hm : c ∈ s) (h : hexLow c = false) : readNum s = none := by
  unfold readNum
  rw [if_neg]
  rintro ⟨_, h2, _⟩
  rw [List.all_eq_true] at h2
  rw [h2 c hm] at h
  cases h
theorem hexVal_app (a b : List UInt8) : hexVal (a ++ b) = hexVal a * 16 ^ b.length + hexVal b := by
  induction b generalizing a with
  | nil => simp [hexVal]
  | cons c b ih =>
    have e : a ++ c :: b = (a ++ [c]) ++ b := by simp
    rw [e, ih, hexVal_snoc, hexVal_cons, List.length_cons, Int.pow_succ, Int.add_mul, Int.add_assoc, Int.mul_assoc, Int.mul_comm 16]
theorem readNum_big {s : List UInt8} {i : Nat} (h : 9007199254740991 < hexVal (s.take i)) : readNum s = none := by
  unfold readNum
  rw [if_neg]
  rintro ⟨_, _, h3⟩
  have e : hexVal s = hexVal (s.take i) * 16 ^ (s.drop i).length + hexVal (s.drop i) := by
    rw [← hexVal_app, List.take_append_drop]
  have hp : (1 : Int) ≤ 16 ^ (s.drop i).length := Int.pow_pos (by decide)
  have h1 : hexVal (s.take i) * 1 ≤ hexVal (s.take i) * 16 ^ (s.drop i).length := Int.mul_le_mul_of_nonneg_left hp (by omega)
  have h2 := hexVal_nonneg (s.drop i)
  omega

set_option maxHeartbeats 2000000 in
set_option maxRecDepth 100000 in
theorem rReadNumber_any (s : List UInt8) (w : World) (hl : s.length ≤ 140737488355328) : Calls Tryz.prog 18 #[.string ⟨s.toArray⟩] w fun e w' => e = .returned (.tuple #[.int .i64 ((readNum s).getD 0), .bool (readNum s).isSome]) ∧ ∃ q, w' = w.drewN q := by
  by_cases h16 : s.length = 16
  · obtain ⟨R, hR⟩ : ∃ R, Hid (readNum s = R) := ⟨_, rfl⟩
    rw [hR.out]
    have x1 : ((s.length : Int) != 16) = false := by rw [bne_eq_false_iff_eq]; omega
    have hsz : (⟨s.toArray⟩ : ByteArray).size = 16 := by simp [ByteArray.size, h16]
    go_enter Tryz.func18, Tryz.ntmps18
    go_wp2
    go_loopg [4, 5] 16 (fun gg s4 s5 wr => ∃ (i : Nat), i ≤ 16 ∧ 16 - i ≤ gg ∧ s4 = .int .i64 (hexVal (s.take i)) ∧ s5 = .int .i64 i ∧ Hid ((∀ c ∈ s.take i, hexLow c = true) ∧ hexVal (s.take i) ≤ 144115188075855871) ∧ ∃ q, wr = w.drewN q)
    case atStart => exact ⟨0, by omega, by omega, by simp [hexVal], rfl, ⟨fun c hc => by simp at hc, by simp [hexVal]⟩, 0, rfl⟩
    case round =>
      obtain ⟨i, hi, hgg, rfl, rfl, HS, q, rfl⟩ := hrel
      by_cases hlt : i < 16
      · have hlz : (i : Int) < 16 := by omega
        go_wp2
        go_loopg [6, 7] 16 (fun gg s6 s7 wr => ∃ (k : Nat) (d : Int), k ≤ 16 ∧ 16 - k ≤ gg ∧ s6 = .int .i64 d ∧ s7 = .int .i64 k ∧ Hid (FoundIn (s[i]'(by omega)) k d) ∧ ∃ q, wr = w.drewN q)
        case atStart => exact ⟨0, -1, by omega, by omega, rfl, rfl, .inl ⟨rfl, fun j hj => by omega⟩, q, rfl⟩
        case round =>
          obtain ⟨k, d, hk, hgk, rfl, rfl, HF, q', rfl⟩ := hrel
          by_cases hkt : k < 16
          · have hkz : (k : Int) < 16 := by omega
            have hg1 : (⟨#[48, 49, 50, 51, 52, 53, 54, 55, 56, 57, 97, 98, 99, 100, 101, 102]⟩ : ByteArray)[k]'(by exact hkt) = hexD k := hexTab_at k hkt
            have hg2 : (⟨s.toArray⟩ : ByteArray)[i]'(by rw [hsz]; exact hlt) = s[i] := by simp [ByteArray.getElem_eq_getElem_data]
            have hi' : (i : Int) < (s.length : Int) := by omega
            by_cases he : hexD k = s[i]
            · have hx : ((((⟨#[48, 49, 50, 51, 52, 53, 54, 55, 56, 57, 97, 98, 99, 100, 101, 102]⟩ : ByteArray)[k]'(by exact hkt)).toNat : Int) == (((⟨s.toArray⟩ : ByteArray)[i]'(by rw [hsz]; exact hlt)).toNat : Int)) = true := by rw [hg1, hg2, he]; simp
              have HF' := Lib.hid (FoundIn.hit he)
              clear HF hg1 hg2 he
              go_wp2
              go_region
              go_wp2
              go_roundg (16 - (k + 1))
              case measure => omega
              case rel => exact ⟨k + 1, k, by omega, Nat.le_refl _, rfl, by go_num, HF'.out, _, rfl⟩
            · have hx : ((((⟨#[48, 49, 50, 51, 52, 53, 54, 55, 56, 57, 97, 98, 99, 100, 101, 102]⟩ : ByteArray)[k]'(by exact hkt)).toNat : Int) == (((⟨s.toArray⟩ : ByteArray)[i]'(by rw [hsz]; exact hlt)).toNat : Int)) = false := by
                rw [hg1, hg2, beq_eq_false_iff_ne]
                intro e
                exact he (UInt8.toNat_inj.1 (by omega))
              have HF' := Lib.hid (HF.out.step he)
              clear HF hg1 hg2 he
              go_wp2
              go_region
              go_wp2
              go_roundg (16 - (k + 1))
              case measure => omega
              case rel => exact ⟨k + 1, d, by omega, Nat.le_refl _, rfl, by go_num, HF'.out, _, rfl⟩
          · obtain rfl : k = 16 := by omega
            have hmem : s[i]'(by omega) ∈ s := List.getElem_mem _
            rcases HF.out.done with ⟨rfl, hbad⟩ | ⟨hd0, hd16, hlow, hdv⟩
            · have hRn := readNum_bad hmem hbad
              rw [hR.out] at hRn
              subst hRn
              clear HF
              go_wp2
              go_ret2
              exact ⟨rfl, _, rfl⟩
            · by_cases hbig : 9007199254740991 < hexVal (s.take i)
              · have hRn := readNum_big hbig
                rw [hR.out] at hRn
                subst hRn
                have x2 : ¬ d < 0 := by omega
                clear HF
                generalize hexVal (s.take i) = V at hbig
                go_wp2
                go_ret2
                exact ⟨rfl, _, rfl⟩
              · have x2 : ¬ d < 0 := by omega
                have hV0 := hexVal_nonneg (s.take i)
                have htk : s.take (i + 1) = s.take i ++ [s[i]'(by omega)] := by rw [List.take_append_getElem]
                have hnx : Hid (hexVal (s.take (i + 1)) = 16 * hexVal (s.take i) + d ∧ (∀ c ∈ s.take (i + 1), hexLow c = true)) := by
                  rw [htk]
                  refine ⟨by rw [hexVal_snoc, hdv]; omega, fun c hc => ?_⟩
                  rcases List.mem_append.1 hc with hc | hc
                  · exact HS.out.1 c hc
                  · simp at hc; subst hc; exact hlow
                clear HF htk hdv hlow hmem HS
                obtain ⟨V, hV⟩ : ∃ V, hexVal (s.take i) = V := ⟨_, rfl⟩
                rw [hV] at hbig hV0 hnx ⊢
                have f1 : IntKind.i64.wrap (16 * V) = 16 * V := by go_arith
                have f2 : IntKind.i64.wrap (16 * V + d) = 16 * V + d := by go_arith
                have x3 : ¬ 9007199254740991 < V := hbig
                go_wp2
                go_roundg (16 - (i + 1))
                case measure => omega
                case rel =>
                  refine ⟨i + 1, by omega, Nat.le_refl _, by rw [hnx.out.1], by go_num, ⟨hnx.out.2, by rw [hnx.out.1]; omega⟩, _, rfl⟩
      · obtain rfl : i = 16 := by omega
        have ht : s.take 16 = s := by rw [List.take_of_length_le (by omega)]
        rw [ht] at HS ⊢
        by_cases hbig : 9007199254740991 < hexVal s
        · have hRn : readNum s = none := readNum_big (i := 16) (by rw [ht]; exact hbig)
          rw [hR.out] at hRn
          subst hRn
          clear HS hR
          generalize hexVal s = V at hbig
          go_wp2
          go_ret2
          exact ⟨rfl, _, rfl⟩
        · have hRn : readNum s = some (hexVal s) := by
            unfold readNum
            rw [if_pos ⟨h16, List.all_eq_true.2 HS.out.1, by omega⟩]
          rw [hR.out] at hRn
          subst hRn
          clear HS hR
          obtain ⟨V, hV⟩ : ∃ V, hexVal s = V := ⟨_, rfl⟩
          rw [hV] at hbig ⊢
          go_wp2
          go_ret2
          refine ⟨?_, _, rfl⟩
          first | rfl | (simp only [ht, hV]; done) | (simp only [ht, hV]; rfl) | trace_state
  · have hRn : readNum s = none := by unfold readNum; rw [if_neg (fun h => h16 h.1)]
    rw [hRn]
    have x1 : ((s.length : Int) != 16) = true := by rw [bne_iff_ne]; omega
    have x1' : ((s.length : Int) == 16) = false := by rw [beq_eq_false_iff_ne]; omega
    clear hRn h16
    go_enter Tryz.func18, Tryz.ntmps18
    go_wp2
    go_ret2
    exact ⟨rfl, 0, rfl⟩

end Go.Proofs.YtajmkkjlhmeolaaGreatDoor

/-
  storehouseref19: the keys that stand on a number alone.
-/
namespace Go.Proofs.YtajmkkjlhmeolaaGreatDoor
open Go.RowKit Go.Lib

theorem rSeq_any (n : Int) (w : World) : Calls Tryz.prog 57 #[.int .i64 n] w fun e w' => e = .returned (.bool (decide (1 ≤ n ∧ n ≤ 9007199254740991))) ∧ w = w' := by
  by_cases h1 : 1 ≤ n
  · by_cases h2 : n ≤ 9007199254740991
    · rw [decide_eq_true ⟨h1, h2⟩]
      go_enter Tryz.func57, Tryz.ntmps57
      go_wp2
      go_ret
      exact ⟨rfl, rfl⟩
    · rw [decide_eq_false (fun h => h2 h.2)]
      go_enter Tryz.func57, Tryz.ntmps57
      go_wp2
      go_ret
      exact ⟨rfl, rfl⟩
  · rw [decide_eq_false (fun h => h1 h.1)]
    go_enter Tryz.func57, Tryz.ntmps57
    go_wp2
    go_ret
    exact ⟨rfl, rfl⟩

set_option maxHeartbeats 1000000 in
theorem rUploadKey_any (n : Int) (hn : IntOK n) (w : World) : Calls Tryz.prog 22 #[.int .i64 n] w fun e w' => e = .returned (.string ⟨(keyL [117, 47] n).toArray⟩) ∧ w = w' := by
  have HS := Lib.hid (rSeq_any n w)
  have HN := Lib.hid (rNumber_any n hn w)
  unfold keyL
  by_cases h : 1 ≤ n ∧ n ≤ 9007199254740991
  · have hl := (numText_in (n := n) ⟨by omega, h.2⟩).1
    rw [decide_eq_true h] at HS
    rw [if_pos h]
    generalize numText n = t at HN hl ⊢
    have g : ¬ 9223372036854775807 < 2 + t.length := by omega
    clear h hn
    go_enter Tryz.func22, Tryz.ntmps22
    go_wp2_with fail
    refine HS.out.mono ?_
    rintro e w1 ⟨rfl, rfl⟩
    go_wp2_with fail
    refine HN.out.mono ?_
    rintro e w1 ⟨rfl, rfl⟩
    go_wp2
    go_ret
    exact ⟨ret_str (str_app _ t), rfl⟩
  · rw [decide_eq_false h] at HS
    rw [if_neg h]
    clear h hn
    go_enter Tryz.func22, Tryz.ntmps22
    go_wp2_with fail
    refine HS.out.mono ?_
    rintro e w1 ⟨rfl, rfl⟩
    go_wp2
    go_ret
    exact ⟨rfl, rfl⟩

set_option maxHeartbeats 1000000 in
theorem rBlobKey_any (n : Int) (hn : IntOK n) (w : World) : Calls Tryz.prog 25 #[.int .i64 n] w fun e w' => e = .returned (.string ⟨(keyL [100, 47] n).toArray⟩) ∧ w = w' := by
  have HS := Lib.hid (rSeq_any n w)
  have HN := Lib.hid (rNumber_any n hn w)
  unfold keyL
  by_cases h : 1 ≤ n ∧ n ≤ 9007199254740991
  · have hl := (numText_in (n := n) ⟨by omega, h.2⟩).1
    rw [decide_eq_true h] at HS
    rw [if_pos h]
    generalize numText n = t at HN hl ⊢
    have g : ¬ 9223372036854775807 < 2 + t.length := by omega
    clear h hn
    go_enter Tryz.func25, Tryz.ntmps25
    go_wp2_with fail
    refine HS.out.mono ?_
    rintro e w1 ⟨rfl, rfl⟩
    go_wp2_with fail
    refine HN.out.mono ?_
    rintro e w1 ⟨rfl, rfl⟩
    go_wp2
    go_ret
    exact ⟨ret_str (str_app _ t), rfl⟩
  · rw [decide_eq_false h] at HS
    rw [if_neg h]
    clear h hn
    go_enter Tryz.func25, Tryz.ntmps25
    go_wp2_with fail
    refine HS.out.mono ?_
    rintro e w1 ⟨rfl, rfl⟩
    go_wp2
    go_ret
    exact ⟨rfl, rfl⟩

end Go.Proofs.YtajmkkjlhmeolaaGreatDoor

/-
  storehouseref13.Bucket: what it asks, byte by byte, is what bucketB asks (plain).
-/
namespace Go.Proofs.YtajmkkjlhmeolaaGreatDoor
open Go.Lib

/-- a small letter or a digit -/
def sdB (c : UInt8) : Bool := decide ((97 ≤ c.toNat ∧ c.toNat ≤ 122) ∨ (48 ≤ c.toNat ∧ c.toNat ≤ 57))
theorem okB_sd (c : UInt8) : okB c = (sdB c || c == 45) := by
  have h45 : (c == 45) = decide (c.toNat = 45) := by
    rw [Bool.eq_iff_iff, beq_iff_eq, decide_eq_true_iff]
    exact ⟨fun h => by rw [h]; rfl, fun h => UInt8.toNat_inj.1 h⟩
  unfold okB sdB
  rw [h45, ← Bool.decide_or]
  congr 1
  rw [or_assoc]
theorem sd_45 : sdB 45 = false := by decide
theorem sd_46 : sdB 46 = false := by decide
/-- may b stand behind q? -/
def pairB (q : Option UInt8) (b : UInt8) : Bool := match q with
  | none => true
  | some q => !((b == 46 && (q == 46 || q == 45)) || (b == 45 && q == 46))
/-- the byte b, behind q; is it the last? -/
def chkB (q : Option UInt8) (b : UInt8) (last : Bool) : Bool := (okB b || b == 46) && (!(q.isNone || last) || sdB b) && pairB q b
def scanB : Option UInt8 → List UInt8 → Bool
  | _, [] => true
  | q, b :: r => chkB q b r.isEmpty && scanB (some b) r

theorem some_bne (a b : UInt8) : (some a != some b) = !(a == b) := rfl
/-- what is asked of the label that begins here, and of those behind it -/
def restB (p : UInt8) (x : List UInt8) (ls : List (List UInt8)) : Bool :=
  (if x.isEmpty then ls.isEmpty || !(p == 46 || p == 45) else x.all okB && x.getLast? != some 45 && !(p == 46 && x.head? == some 45)) && ls.all labelB

theorem labels_nil {l : List UInt8} (h : labels l = [[]]) : l = [] := by
  cases l with
  | nil => rfl
  | cons c r =>
    exfalso
    simp only [labels] at h
    split at h
    · simp at h; exact labels_ne r h
    · split at h <;> simp at h

theorem scan_some : ∀ (l : List UInt8) (p : UInt8) (x : List UInt8) (ls : List (List UInt8)), labels l = x :: ls → scanB (some p) l = restB p x ls
  | [], p, x, ls, h => by
    simp only [labels, List.cons.injEq] at h
    obtain ⟨rfl, rfl⟩ := h
    simp [scanB, restB]
  | c :: r, p, x, ls, h => by
    obtain ⟨y, ms, hy⟩ : ∃ y ms, labels r = y :: ms := by
      cases hr : labels r with
      | nil => exact absurd hr (labels_ne r)
      | cons y ms => exact ⟨y, ms, rfl⟩
    have ih := scan_some r c y ms hy
    have hnil : r.isEmpty = (y.isEmpty && ms.isEmpty) := by
      cases hr : r with
      | nil => rw [hr] at hy; simp only [labels, List.cons.injEq] at hy; obtain ⟨rfl, rfl⟩ := hy; rfl
      | cons a b =>
        rw [List.isEmpty_cons]
        cases y with
        | cons _ _ => rfl
        | nil => cases ms with
          | cons _ _ => rfl
          | nil => rw [labels_nil hy] at hr; cases hr
    simp only [scanB, chkB, pairB, Option.isNone_some, Bool.false_or, ih, hnil]
    simp only [labels] at h
    by_cases h46 : c = 46
    · subst h46
      rw [if_pos rfl, hy] at h
      simp only [List.cons.injEq] at h
      obtain ⟨rfl, rfl⟩ := h
      have hok : okB 46 = false := by decide
      simp only [restB, hok, sd_46, labelB, List.isEmpty_nil, List.all_cons]
      cases y with
      | nil => cases ms <;> simp
      | cons a b =>
        simp only [List.isEmpty_cons]
        by_cases hp : p = 46 <;> by_cases hp' : p = 45 <;> simp [hp, hp', some_bne, Bool.and_comm, Bool.and_left_comm] <;> ac_rfl
    · rw [if_neg h46, hy] at h
      simp only [List.cons.injEq] at h
      obtain ⟨rfl, rfl⟩ := h
      have hc46 : (c == 46) = false := by rw [beq_eq_false_iff_ne]; exact h46
      simp only [restB, hc46, Bool.false_and, Bool.or_false, Bool.false_or, List.isEmpty_cons, List.all_cons, List.head?_cons]
      rw [okB_sd c]
      by_cases h45 : c = 45
      · subst h45
        rw [sd_45]
        cases y with
        | nil => cases ms <;> by_cases hp : p = 46 <;> simp [hp]
        | cons a b => by_cases hp : p = 46 <;> simp [hp, some_bne, List.getLast?_cons_cons, Bool.and_comm, Bool.and_left_comm]
      · have hc45 : (c == 45) = false := by rw [beq_eq_false_iff_ne]; exact h45
        cases y with
        | nil => cases ms <;> simp [hc45, some_bne]
        | cons a b =>
          simp [hc45, some_bne, List.getLast?_cons_cons]
          try ac_rfl

theorem scan_none {s : List UInt8} (h : s ≠ []) : scanB none s = (labels s).all labelB := by
  cases s with
  | nil => exact absurd rfl h
  | cons c r =>
    obtain ⟨y, ms, hy⟩ : ∃ y ms, labels r = y :: ms := by
      cases hr : labels r with
      | nil => exact absurd hr (labels_ne r)
      | cons y ms => exact ⟨y, ms, rfl⟩
    have ih := scan_some r c y ms hy
    simp only [scanB, chkB, pairB, Option.isNone_none, Bool.true_or, Bool.not_true, Bool.false_or, Bool.and_true, ih, labels]
    by_cases h46 : c = 46
    · subst h46
      rw [if_pos rfl, sd_46]
      simp [labelB]
    · rw [if_neg h46, hy]
      have hc46 : (c == 46) = false := by rw [beq_eq_false_iff_ne]; exact h46
      simp only [restB, hc46, Bool.or_false, Bool.false_and, List.all_cons, labelB, List.isEmpty_cons, List.head?_cons, Bool.false_or]
      rw [okB_sd c]
      by_cases h45 : c = 45
      · subst h45
        rw [sd_45]
        simp
      · have hc45 : (c == 45) = false := by rw [beq_eq_false_iff_ne]; exact h45
        cases y with
        | nil => simp [hc45, some_bne]
        | cons a b =>
          simp [hc45, some_bne, List.getLast?_cons_cons]
          try ac_rfl

theorem labels_length (s : List UInt8) : (labels s).length = s.count 46 + 1 := by
  induction s with
  | nil => rfl
  | cons c r ih =>
    simp only [labels]
    by_cases h : c = 46
    · subst h; simp [ih]
    · rw [if_neg h]
      cases hr : labels r with
      | nil => exact absurd hr (labels_ne r)
      | cons y ms =>
        rw [hr] at ih
        simp only [List.length_cons] at ih ⊢
        rw [ih, List.count_cons_of_ne (by simpa using h)]
def ddB (c : UInt8) : Bool := decide (48 ≤ c.toNat ∧ c.toNat ≤ 57) || c == 46
theorem labels_dig (s : List UInt8) : (labels s).all digB = s.all ddB := by
  induction s with
  | nil => rfl
  | cons c r ih =>
    simp only [labels]
    by_cases h : c = 46
    · subst h; simp [ih, digB, ddB]
    · rw [if_neg h]
      cases hr : labels r with
      | nil => exact absurd hr (labels_ne r)
      | cons y ms =>
        rw [hr] at ih
        have hc : (c == 46) = false := by rw [beq_eq_false_iff_ne]; exact h
        simp only [List.all_cons, ← ih, digB, ddB, hc, Bool.or_false, Bool.and_assoc]
theorem bucketB_scan {s : List UInt8} (h : 3 ≤ s.length ∧ s.length ≤ 63) : bucketB s = (scanB none s && (!s.all ddB || s.count 46 != 3)) := by
  unfold bucketB
  rw [decide_eq_true h, Bool.true_and, ← scan_none (by intro e; rw [e] at h; simp at h), labels_length, ← labels_dig]
  congr 1
  have e1 : decide ((labels s).countP digB < s.count 46 + 1) = !(labels s).all digB := by
    rw [← labels_length, Bool.eq_iff_iff, decide_eq_true_iff, Bool.not_eq_true', ← Bool.not_eq_true, List.all_eq_true, ← List.countP_eq_length]
    have := List.countP_le_length (p := digB) (l := labels s)
    omega
  rw [e1]
  congr 1
  rw [Bool.eq_iff_iff, bne_iff_ne, bne_iff_ne]
  omega

end Go.Proofs.YtajmkkjlhmeolaaGreatDoor
