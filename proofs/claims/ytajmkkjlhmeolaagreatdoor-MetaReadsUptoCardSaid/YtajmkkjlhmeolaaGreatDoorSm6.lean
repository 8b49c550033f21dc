/-
  SEVERAL SMALL TEXTS IN ONE.
-/
import Derived.Test.YtajmkkjlhmeolaaGreatDoorMtBucketP
import Derived.Test.YtajmkkjlhmeolaaGreatDoorMtText
import Derived.Shelf.Strings.SlTrimAscii
import Derived.Deep.LoopGhost
import Derived.Test.YtajmkkjlhmeolaaGreatDoorSm4
import Derived.Lib.ConvBytes
import Derived.Lib.AtoiAllMem
import Derived.Laws.Strings3
/-
  uri.Bucket: the walk.
-/
namespace Go.Proofs.YtajmkkjlhmeolaaGreatDoor
open Go.RowKit Go.Lib

/-- what the listed variables hold, for names too -/
structure GlobK (w : World) : Prop where
  g : Glob w
  max : ∃ m, w.cell? ⟨0, 0, none⟩ = some (.int .i64 m)
  tabs : Lib.Utf8Tabs 5 6 w
  cases_ : CaseVar 4 caseA w

theorem utf8_later {g3 g4 : Nat} {w w' : World} (h : Lib.Utf8Tabs g3 g4 w) (hb : Below w.heap.size w w') : Lib.Utf8Tabs g3 g4 w' :=
  ⟨fun c hc => cell_later hb (h.1 c hc), fun i hi => ⟨cell_later hb (h.2 i hi).1, cell_later hb (h.2 i hi).2⟩⟩
theorem casetab_later {R oR : Nat} {T : Array CaseRow} {w w' : World} (h : CaseTab R oR T w) (hb : Below w.heap.size w w') : CaseTab R oR T w' := fun i hi =>
  ⟨cell_later hb (h i hi).1, cell_later hb (h i hi).2.1, cell_later hb (h i hi).2.2.1, cell_later hb (h i hi).2.2.2.1, cell_later hb (h i hi).2.2.2.2⟩

theorem GlobK.later {w w' : World} (h : GlobK w) (hb : Below w.heap.size w w') : GlobK w' :=
  ⟨h.g.later hb, by obtain ⟨m, hm⟩ := h.max; exact ⟨m, cell_later hb hm⟩, utf8_later h.tabs hb, by
    obtain ⟨R, oR, cap, h1, h2⟩ := h.cases_
    exact ⟨R, oR, cap, cell_later hb h1, casetab_later h2 hb⟩⟩

set_option maxHeartbeats 1000000 in
theorem letter_any (c : Int) (h0 : 0 ≤ c) (h1 : c ≤ 255) (w : World) : Calls Tryz.prog 88 #[.int .u8 c] w fun e w' => e = .returned (.bool (letC c)) ∧ w' = w := by
  have hL : Hid (letC c = decide ((97 ≤ c ∧ c ≤ 122) ∨ (65 ≤ c ∧ c ≤ 90) ∨ (48 ≤ c ∧ c ≤ 57))) := rfl
  have hcase : c < 48 ∨ (48 ≤ c ∧ c ≤ 57 ∧ c < 65) ∨ (48 ≤ c ∧ 57 < c ∧ c < 65) ∨ (65 ≤ c ∧ c ≤ 90 ∧ c < 97) ∨ (65 ≤ c ∧ 90 < c ∧ 57 < c ∧ c < 97) ∨ (97 ≤ c ∧ c ≤ 122) ∨ (97 ≤ c ∧ 122 < c ∧ 90 < c ∧ 57 < c) := by omega
  have d57 : 57 < c → decide (c ≤ 57) = false := fun h => decide_eq_false (by omega)
  have d90 : 90 < c → decide (c ≤ 90) = false := fun h => decide_eq_false (by omega)
  have d122 : 122 < c → decide (c ≤ 122) = false := fun h => decide_eq_false (by omega)
  have D57 := Lib.hid d57
  have D90 := Lib.hid d90
  have D122 := Lib.hid d122
  clear d57 d90 d122
  rcases hcase with h | ⟨h, h', h''⟩ | ⟨h, h', h''⟩ | ⟨h, h', h''⟩ | ⟨h, h', h'', h3⟩ | ⟨h, h'⟩ | ⟨h, h', h'', h3⟩
  all_goals
    (try have e1 := D57.out (by omega))
    (try have e2 := D90.out (by omega))
    (try have e3 := D122.out (by omega))
    first
      | (have HV : Hid (letC c = true) := decide_eq_true (by omega)
         go_enter Tryz.func88, Tryz.ntmps88
         go_wp2
         go_ret
         rw [HV.out]
         exact ⟨rfl, rfl⟩)
      | (have HV : Hid (letC c = false) := decide_eq_false (by omega)
         go_enter Tryz.func88, Tryz.ntmps88
         go_wp2
         go_ret
         rw [HV.out]
         exact ⟨rfl, rfl⟩)

set_option maxHeartbeats 1000000 in
theorem pred_pays (w : World) : PredAt Tryz.prog 87 #[] encR badR w := fun W x _ => by
  unfold FnGives
  by_cases h : 126 < x
  · have HB : Hid (badR x = true) := by show _ = _; unfold badR; rw [decide_eq_true h]; rfl
    have h' : (126 : Int) < (x : Int) := by omega
    go_enter Tryz.func87, Tryz.ntmps87
    go_wp2
    go_ret
    rw [HB.out]
    exact ⟨rfl, 0, rfl⟩
  · have HB : Hid (badR x = (!letC (x : Int) && x != 45)) := by show _ = _; unfold badR; rw [decide_eq_false h]; rfl
    have h' : (x : Int) ≤ 126 := by omega
    have hd : decide ((126 : Int) < (x : Int)) = false := decide_eq_false (by omega)
    have HL := Lib.hid (fun W => letter_any (x : Int) (by omega) (by omega) W)
    obtain ⟨b, hb⟩ : ∃ b, Hid (letC (x : Int) = b) := ⟨_, rfl⟩
    rw [hb.out] at HB HL
    clear h
    cases b with
    | true =>
      have HB2 : Hid (badR x = false) := by show _ = _; rw [HB.out]; rfl
      go_enter Tryz.func87, Tryz.ntmps87
      go_wp2_with fail
      refine (HL.out _).mono ?_
      rintro e w' ⟨rfl, rfl⟩
      go_wp2
      go_ret
      rw [HB2.out]
      exact ⟨rfl, 0, rfl⟩
    | false =>
      by_cases h45 : x = 45
      · subst h45
        go_enter Tryz.func87, Tryz.ntmps87
        go_wp2_with fail
        refine (HL.out _).mono ?_
        rintro e w' ⟨rfl, rfl⟩
        go_wp2
        go_ret
        rw [HB.out]
        exact ⟨rfl, 0, rfl⟩
      · have hx : ((x : Int) == 45) = false := by rw [beq_eq_false_iff_ne]; omega
        have hx' : ((x : Int) != 45) = true := by rw [bne_iff_ne]; omega
        have HX : Hid ((x != 45) = true) := by show _ = _; simpa using h45
        clear h45
        go_enter Tryz.func87, Tryz.ntmps87
        go_wp2_with fail
        refine (HL.out _).mono ?_
        rintro e w' ⟨rfl, rfl⟩
        go_wp2
        go_ret
        rw [HB.out, HX.out]
        exact ⟨rfl, 0, rfl⟩

theorem trim_digits (l : List UInt8) : (trimS l [48, 49, 50, 51, 52, 53, 54, 55, 56, 57] = []) ↔ digB l = true := by
  have hc : ∀ c : UInt8, ([48, 49, 50, 51, 52, 53, 54, 55, 56, 57] : List UInt8).contains c = decide (48 ≤ c.toNat ∧ c.toNat ≤ 57) := by
    intro c
    rw [Bool.eq_iff_iff, decide_eq_true_eq]
    simp only [List.contains_iff_mem, List.mem_cons, List.not_mem_nil, or_false, ← UInt8.toNat_inj]
    have h : (48 : UInt8).toNat = 48 ∧ (49 : UInt8).toNat = 49 ∧ (50 : UInt8).toNat = 50 ∧ (51 : UInt8).toNat = 51 ∧ (52 : UInt8).toNat = 52 ∧ (53 : UInt8).toNat = 53 ∧ (54 : UInt8).toNat = 54 ∧ (55 : UInt8).toNat = 55 ∧ (56 : UInt8).toNat = 56 ∧ (57 : UInt8).toNat = 57 := ⟨rfl, rfl, rfl, rfl, rfl, rfl, rfl, rfl, rfl, rfl⟩
    omega
  unfold trimS trimLeftS trimRightS digB
  have hdw : ∀ (p : UInt8 → Bool) (l : List UInt8), l.dropWhile p = [] ↔ l.all p = true := by
    intro p l
    induction l with
    | nil => simp
    | cons x l ih =>
      by_cases hx : p x = true
      · simp [List.dropWhile_cons, hx, ih]
      · simp [List.dropWhile_cons, hx]
  have e : (fun c : UInt8 => decide (48 ≤ c.toNat ∧ c.toNat ≤ 57)) = (fun c => ([48, 49, 50, 51, 52, 53, 54, 55, 56, 57] : List UInt8).contains c) := funext fun c => (hc c).symm
  rw [e, hdw, List.all_reverse]
  generalize (fun c => ([48, 49, 50, 51, 52, 53, 54, 55, 56, 57] : List UInt8).contains c) = p
  constructor
  · intro h
    have h2 : l.reverse.dropWhile p = [] := by
      cases hd : l.reverse.dropWhile p with
      | nil => rfl
      | cons x t =>
        exfalso
        rw [hd] at h
        have hx := List.all_eq_true.1 h x (by simp)
        have : ∀ (m : List UInt8), m.dropWhile p = x :: t → p x = false := by
          intro m
          induction m with
          | nil => intro h; cases h
          | cons y m ih =>
            intro h
            rw [List.dropWhile_cons] at h
            split at h
            · exact ih h
            · rename_i hy
              simp only [List.cons.injEq] at h
              rw [← h.1]; simpa using hy
        rw [this _ hd] at hx
        cases hx
    rw [hdw, List.all_reverse] at h2
    exact h2
  · intro h
    have h2 : l.reverse.dropWhile p = [] := by rw [hdw, List.all_reverse]; exact h
    rw [h2]; rfl

/-- how ToLower ends, as far as names want it -/
theorem lower_any (l : List UInt8) (hl : l.length ≤ 63) (w : World) (hG : GlobK w) : Calls Tryz.prog 85 #[.string ⟨l.toArray⟩] w fun e w' => (∃ m, e = .returned (.string ⟨m.toArray⟩) ∧ ((∀ c ∈ l, c.toNat < 128) → m = toLowerA l)) ∧ Below w.heap.size w w' := by
  have hsz : (⟨l.toArray⟩ : ByteArray).size = l.length := by simp [ByteArray.size]
  by_cases ha : ∀ c ∈ l, c.toNat < 128
  · refine (Tryz.strings_ToLower_ascii ⟨l.toArray⟩ w (by omega) (fun j b h => ha b (List.mem_of_getElem? h))).mono ?_
    rintro e w' ⟨rfl, hb⟩
    exact ⟨⟨_, rfl, fun _ => rfl⟩, hb⟩
  · refine (Tryz.strings_ToLower_any ⟨l.toArray⟩ w (by omega) hG.cases_ hG.tabs).mono ?_
    rintro e w' ⟨rfl, hb⟩
    exact ⟨⟨_, rfl, fun h => absurd h ha⟩, hb⟩

theorem trim_any (l : List UInt8) (hl : l.length ≤ 63) (w : World) : Calls Tryz.prog 84 #[.string ⟨l.toArray⟩, .string ⟨#[48, 49, 50, 51, 52, 53, 54, 55, 56, 57]⟩] w fun e w' => e = .returned (.string ⟨(trimS l [48, 49, 50, 51, 52, 53, 54, 55, 56, 57]).toArray⟩) ∧ Below w.heap.size w w' := by
  have hsz : (⟨l.toArray⟩ : ByteArray).size = l.length := by simp [ByteArray.size]
  exact Any.strings_Trim_ascii Tryz.lays160 (by intro w; kernel_rfl) (by kernel_rfl) ⟨l.toArray⟩ ⟨#[48, 49, 50, 51, 52, 53, 54, 55, 56, 57]⟩ w (by omega) (by decide) (fun j b h => by
    have hm := List.mem_of_getElem? h
    simp only [List.mem_cons, List.not_mem_nil, or_false] at hm
    rcases hm with rfl | rfl | rfl | rfl | rfl | rfl | rfl | rfl | rfl | rfl <;> decide)

theorem contains_any_bad (l : List UInt8) (w : World) : Calls Tryz.prog 86 #[.string ⟨l.toArray⟩, .func (.func 87) #[] #[]] w fun e w' => e = .returned (.bool (decide (0 ≤ idxFunc badR true ⟨l.toArray⟩))) ∧ Below w.heap.size w w' :=
  Tryz.strings_ContainsFunc 87 #[] (enters_of Tryz.func87 (by kernel_rfl) rfl) badR ⟨l.toArray⟩ w (pred_pays w)

end Go.Proofs.YtajmkkjlhmeolaaGreatDoor

/-
  strconv.ParseInt at base 16, bit size 64, at every text: the walks.
-/
namespace Go.Proofs.YtajmkkjlhmeolaaGreatDoor
open Go.RowKit

/-- a digit of base up to 36, as strconv takes it; from 16 on: it is none -/
def hxd (c : UInt8) : Int :=
  if 48 ≤ (c.toNat : Int) ∧ (c.toNat : Int) ≤ 57 then (c.toNat : Int) - 48
  else if 97 ≤ bits .or .u8 (c.toNat : Int) 32 ∧ bits .or .u8 (c.toNat : Int) 32 ≤ 122 then bits .or .u8 (c.toNat : Int) 32 - 97 + 10 else 255
theorem hxd_nonneg (c : UInt8) : 0 ≤ hxd c := by
  unfold hxd
  split
  · omega
  · split <;> omega
/-- the number of sixteenths, behind a; none: no number, or too great -/
def pu16 : Int → List UInt8 → Option Int
  | a, [] => some a
  | a, c :: r => if 16 ≤ hxd c then none else if 1152921504606846976 ≤ a then none else pu16 (a * 16 + hxd c) r
theorem pu16_bd : ∀ (l : List UInt8) (a v : Int), 0 ≤ a → a < 18446744073709551616 → pu16 a l = some v → 0 ≤ v ∧ v < 18446744073709551616
  | [], a, v, h0, h1, h => by simp [pu16] at h; omega
  | c :: r, a, v, h0, h1, h => by
    simp only [pu16] at h
    split at h
    · cases h
    · split at h
      · cases h
      · have := hxd_nonneg c
        exact pu16_bd r _ v (by omega) (by omega) h

/-- how ParseUint ends -/
def PuOut (o : Option Int) (e : Ending) : Prop :=
  match o with
  | some v => e = .returned (.tuple #[.int .u64 v, .nilIface])
  | none => e = .returned (.tuple #[.int .u64 0, .iface 155 (.int .i64 2)]) ∨ e = .returned (.tuple #[.int .u64 18446744073709551615, .iface 155 (.int .i64 1)])

set_option maxHeartbeats 4000000 in
set_option maxRecDepth 100000 in
theorem parseUint16 (bs : List UInt8) (hne : bs ≠ []) (hmax : bs.length ≤ 9223372036854775806) (w : World) :
    Calls Tryz.prog 130 #[.string ⟨bs.toArray⟩, .int .i64 16, .int .i64 64] w fun e w' => PuOut (pu16 0 bs) e ∧ Below w.heap.size w w' := by
  have hsz : (⟨bs.toArray⟩ : ByteArray).size = bs.length := by simp [ByteArray.size]
  have hcv := Lib.run_convert_string_bytes (P := Tryz.prog) w 9 112 5 ⟨bs.toArray⟩ (u := .string) Tryz.underlying9 Tryz.underlying112 Tryz.underlying5
  have hB : ∀ j, j < bs.length → (Lib.bytesWorld w 5 ⟨bs.toArray⟩).cell? ⟨w.heap.size, j, none⟩ = some (.int .u8 (bs.getD j 0).toNat) := fun j hj => Lib.bytesWorld_cell w 5 ⟨bs.toArray⟩ j (by rw [hsz]; exact hj)
  have hBW := Lib.hid (below_bytesWorld w 5 ⟨bs.toArray⟩)
  have hemp : bs.isEmpty = false := by cases bs with | nil => exact absurd rfl hne | cons _ _ => rfl
  obtain ⟨W1, hW1⟩ : ∃ W1, W1 = Lib.bytesWorld w 5 ⟨bs.toArray⟩ := ⟨_, rfl⟩
  rw [← hW1] at hcv hB hBW
  clear hW1
  have HBS := Lib.hid hB
  have hmv : IntKind.u64.wrap (IntKind.u64.wrap 18446744073709551616 - 1) = 18446744073709551615 := by
    rw [IntKind.wrap_u64, IntKind.wrap_u64]
    decide
  obtain ⟨R, hR⟩ : ∃ R, Hid (pu16 0 bs = R) := ⟨_, rfl⟩
  rw [hR.out]
  clear hB hsz hne
  go_enter Tryz.func130, Tryz.ntmps130
  go_wp2
  go_loop [12, 13, 101] (fun vu vn vi => ∃ (k : Nat) (a : Int), vu = .bool false ∧ vn = .int .u64 a ∧ vi = .int .i64 k ∧ k ≤ bs.length ∧ 0 ≤ a ∧ a < 18446744073709551616 ∧ Hid (pu16 a (bs.drop k) = R)) (fun _ _ vi => bs.length - (intOf vi).toNat)
  case atStart => exact ⟨0, 0, rfl, rfl, rfl, by omega, by omega, by omega, hR⟩
  case round =>
    obtain ⟨k, a, rfl, rfl, rfl, hk, ha0, ha1, HD⟩ := hrel
    by_cases hkn : k < bs.length
    · have hc := HBS.out k hkn
      have hdrop : bs.drop k = bs[k] :: bs.drop (k + 1) := List.drop_eq_getElem_cons hkn
      have hget : bs.getD k 0 = bs[k] := by simp [List.getD, List.getElem?_eq_getElem hkn]
      rw [hdrop] at HD
      rw [hget] at hc
      generalize bs[k] = c at hc HD
      have hc256 : c.toNat < 256 := c.toNat_lt
      have hx := (rfl : hxd c = hxd c)
      conv at hx => rhs; unfold hxd
      clear hdrop hget
      by_cases hdig : 48 ≤ (c.toNat : Int) ∧ (c.toNat : Int) ≤ 57
      · rw [if_pos hdig] at hx
        obtain ⟨hd0, hd1⟩ := hdig
        have hxv := Lib.hid hx
        clear hx
        have hstep : Hid (pu16 a (c :: bs.drop (k + 1)) = if 1152921504606846976 ≤ a then none else pu16 (a * 16 + ((c.toNat : Int) - 48)) (bs.drop (k + 1))) := by
          show _ = _
          rw [pu16, hxv.out, if_neg (by omega)]
        by_cases hcut : 1152921504606846976 ≤ a
        · have HRN : Hid (R = none) := by show _ = _; rw [← HD.out, hstep.out, if_pos hcut]
          cases h95 : ((c.toNat : Int) == 95)
          all_goals
            go_wp2_with (go_at_call 156; refine (Tryz.internal_strconv_lower _ _).mono ?_; rintro e w' ⟨rfl, rfl⟩)
            go_ret2
            rw [HRN.out]
            exact ⟨.inr rfl, hBW.out⟩
        · have hcut' : a < 1152921504606846976 := by omega
          have HRN : Hid (pu16 (a * 16 + ((c.toNat : Int) - 48)) (bs.drop (k + 1)) = R) := by show _ = _; rw [← HD.out, hstep.out, if_neg hcut]
          have hov : a * 16 + ((c.toNat : Int) - 48) < 18446744073709551616 := by omega
          clear hcut
          cases h95 : ((c.toNat : Int) == 95)
          all_goals
            go_wp2_with (go_at_call 156; refine (Tryz.internal_strconv_lower _ _).mono ?_; rintro e w' ⟨rfl, rfl⟩)
            refine ⟨⟨k + 1, a * 16 + ((c.toNat : Int) - 48), rfl, (by first | rfl | (congr 1; omega)), (by first | rfl | (congr 1; omega)), by omega, by omega, hov, HRN⟩, by simp [intOf]; omega⟩
      · rw [if_neg hdig] at hx
        have hlo0 := bits_lo_u8 .or (c.toNat : Int) 32
        have hlo1 := bits_hi_u8 .or (c.toNat : Int) 32
        have hnd : ((c.toNat : Int) < 48) ∨ (48 ≤ (c.toNat : Int) ∧ 57 < (c.toNat : Int)) := by omega
        clear hdig
        obtain ⟨lo, hlo⟩ : ∃ lo, bits .or .u8 (c.toNat : Int) 32 = lo := ⟨_, rfl⟩
        have HLOW : Hid (∀ W, Calls Tryz.prog 156 #[.int .u8 (c.toNat : Int)] W fun e w' => e = .returned (.int .u8 lo) ∧ w' = W) := fun W => by rw [← hlo]; exact Tryz.internal_strconv_lower _ _
        rw [hlo] at hx hlo0 hlo1
        clear hlo
        by_cases hlet : 97 ≤ lo ∧ lo ≤ 122
        · rw [if_pos hlet] at hx
          obtain ⟨hl0, hl1⟩ := hlet
          have hxv := Lib.hid hx
          clear hx
          by_cases h16 : 16 ≤ lo - 97 + 10
          · have HRN : Hid (R = none) := by show _ = _; rw [← HD.out, pu16, hxv.out, if_pos h16]
            rcases hnd with hnd | ⟨hnd, hnd'⟩
            all_goals
              cases h95 : ((c.toNat : Int) == 95)
              all_goals
                go_wp2_with (go_at_call 156; refine (HLOW.out _).mono ?_; rintro e w' ⟨rfl, rfl⟩)
                go_ret2
                rw [HRN.out]
                exact ⟨.inl rfl, hBW.out⟩
          · have h16' : lo - 97 + 10 < 16 := by omega
            clear h16
            rcases hnd with hnd | ⟨hnd, hnd'⟩
            all_goals
              have hstep : Hid (pu16 a (c :: bs.drop (k + 1)) = if 1152921504606846976 ≤ a then none else pu16 (a * 16 + (lo - 97 + 10)) (bs.drop (k + 1))) := by
                show _ = _
                rw [pu16, hxv.out, if_neg (by omega)]
              by_cases hcut : 1152921504606846976 ≤ a
              · have HRN : Hid (R = none) := by show _ = _; rw [← HD.out, hstep.out, if_pos hcut]
                cases h95 : ((c.toNat : Int) == 95)
                all_goals
                  go_wp2_with (go_at_call 156; refine (HLOW.out _).mono ?_; rintro e w' ⟨rfl, rfl⟩)
                  go_ret2
                  rw [HRN.out]
                  exact ⟨.inr rfl, hBW.out⟩
              · have hcut' : a < 1152921504606846976 := by omega
                have HRN : Hid (pu16 (a * 16 + (lo - 97 + 10)) (bs.drop (k + 1)) = R) := by show _ = _; rw [← HD.out, hstep.out, if_neg hcut]
                have hov : a * 16 + (lo - 97 + 10) < 18446744073709551616 := by omega
                clear hcut
                cases h95 : ((c.toNat : Int) == 95)
                all_goals
                  go_wp2_with (go_at_call 156; refine (HLOW.out _).mono ?_; rintro e w' ⟨rfl, rfl⟩)
                  refine ⟨⟨k + 1, a * 16 + (lo - 97 + 10), rfl, (by first | rfl | (congr 1; omega)), (by first | rfl | (congr 1; omega)), by omega, by omega, hov, HRN⟩, by simp [intOf]; omega⟩
        · rw [if_neg hlet] at hx
          have hxv := Lib.hid hx
          clear hx
          have HRN : Hid (R = none) := by show _ = _; rw [← HD.out, pu16, hxv.out, if_pos (by omega)]
          have hlt' : lo < 97 ∨ (97 ≤ lo ∧ 122 < lo) := by omega
          clear hlet
          rcases hlt' with h1 | ⟨h1, h2⟩
          all_goals
            rcases hnd with hnd | ⟨hnd, hnd'⟩
            all_goals
              cases h95 : ((c.toNat : Int) == 95)
              all_goals
                go_wp2_with (go_at_call 156; refine (HLOW.out _).mono ?_; rintro e w' ⟨rfl, rfl⟩)
                go_ret2
                rw [HRN.out]
                exact ⟨.inl rfl, hBW.out⟩
    · obtain rfl : k = bs.length := by omega
      have HRN : Hid (R = some a) := by show _ = _; rw [← HD.out, List.drop_length]; rfl
      go_wp2
      go_ret2
      rw [HRN.out]
      exact ⟨rfl, hBW.out⟩

end Go.Proofs.YtajmkkjlhmeolaaGreatDoor
