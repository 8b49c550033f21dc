/-
  strconv.ParseInt at base 16, bit size 64, at every text: the walks.
-/
import Derived.Test.YtgklbmcnpnmkkaaDoorSm30
import Derived.Lib.ConvBytes
import Derived.Lib.AtoiAllMem
import Derived.Laws.Strings3
namespace Go.Proofs.YtgklbmcnpnmkkaaDoor
open Go.RowKit

/-- a digit of base up to 36, as strconv takes it; from 16 on: it is none -/
def hxd (c : UInt8) : Int :=
  if 48 ≤ (c.toNat : Int) ∧ (c.toNat : Int) ≤ 57 then (c.toNat : Int) - 48
  else if 97 ≤ bits .or .u8 (c.toNat : Int) 32 ∧ bits .or .u8 (c.toNat : Int) 32 ≤ 122 then bits .or .u8 (c.toNat : Int) 32 - 97 + 10 else 255
theorem hxd_nonneg (c : UInt8) : 0 ≤ hxd c := by
  unfold hxd
  split
  · omega
  · split <;> omega
/-- the number of sixteenths, behind a; none: no number, or too great -/
def pu16 : Int → List UInt8 → Option Int
  | a, [] => some a
  | a, c :: r => if 16 ≤ hxd c then none else if 1152921504606846976 ≤ a then none else pu16 (a * 16 + hxd c) r
theorem pu16_bd : ∀ (l : List UInt8) (a v : Int), 0 ≤ a → a < 18446744073709551616 → pu16 a l = some v → 0 ≤ v ∧ v < 18446744073709551616
  | [], a, v, h0, h1, h => by simp [pu16] at h; omega
  | c :: r, a, v, h0, h1, h => by
    simp only [pu16] at h
    split at h
    · cases h
    · split at h
      · cases h
      · have := hxd_nonneg c
        exact pu16_bd r _ v (by omega) (by omega) h

/-- how ParseUint ends -/
def PuOut (o : Option Int) (e : Ending) : Prop :=
  match o with
  | some v => e = .returned (.tuple #[.int .u64 v, .nilIface])
  | none => e = .returned (.tuple #[.int .u64 0, .iface 118 (.int .i64 2)]) ∨ e = .returned (.tuple #[.int .u64 18446744073709551615, .iface 118 (.int .i64 1)])

set_option maxHeartbeats 4000000 in
set_option maxRecDepth 100000 in
theorem parseUint16 (bs : List UInt8) (hne : bs ≠ []) (hmax : bs.length ≤ 9223372036854775806) (w : World) :
    Calls Tryd.prog 84 #[.string ⟨bs.toArray⟩, .int .i64 16, .int .i64 64] w fun e w' => PuOut (pu16 0 bs) e ∧ Below w.heap.size w w' := by
  have hsz : (⟨bs.toArray⟩ : ByteArray).size = bs.length := by simp [ByteArray.size]
  have hcv := Lib.run_convert_string_bytes (P := Tryd.prog) w 9 75 5 ⟨bs.toArray⟩ (u := .string) Tryd.underlying9 Tryd.underlying75 Tryd.underlying5
  have hB : ∀ j, j < bs.length → (Lib.bytesWorld w 5 ⟨bs.toArray⟩).cell? ⟨w.heap.size, j, none⟩ = some (.int .u8 (bs.getD j 0).toNat) := fun j hj => Lib.bytesWorld_cell w 5 ⟨bs.toArray⟩ j (by rw [hsz]; exact hj)
  have hBW := Lib.hid (below_bytesWorld w 5 ⟨bs.toArray⟩)
  have hemp : bs.isEmpty = false := by cases bs with | nil => exact absurd rfl hne | cons _ _ => rfl
  obtain ⟨W1, hW1⟩ : ∃ W1, W1 = Lib.bytesWorld w 5 ⟨bs.toArray⟩ := ⟨_, rfl⟩
  rw [← hW1] at hcv hB hBW
  clear hW1
  have HBS := Lib.hid hB
  have hmv : IntKind.u64.wrap (IntKind.u64.wrap 18446744073709551616 - 1) = 18446744073709551615 := by
    rw [IntKind.wrap_u64, IntKind.wrap_u64]
    decide
  obtain ⟨R, hR⟩ : ∃ R, Hid (pu16 0 bs = R) := ⟨_, rfl⟩
  rw [hR.out]
  clear hB hsz hne
  go_enter Tryd.func84, Tryd.ntmps84
  go_wp2
  go_loop [12, 13, 101] (fun vu vn vi => ∃ (k : Nat) (a : Int), vu = .bool false ∧ vn = .int .u64 a ∧ vi = .int .i64 k ∧ k ≤ bs.length ∧ 0 ≤ a ∧ a < 18446744073709551616 ∧ Hid (pu16 a (bs.drop k) = R)) (fun _ _ vi => bs.length - (intOf vi).toNat)
  case atStart => exact ⟨0, 0, rfl, rfl, rfl, by omega, by omega, by omega, hR⟩
  case round =>
    obtain ⟨k, a, rfl, rfl, rfl, hk, ha0, ha1, HD⟩ := hrel
    by_cases hkn : k < bs.length
    · have hc := HBS.out k hkn
      have hdrop : bs.drop k = bs[k] :: bs.drop (k + 1) := List.drop_eq_getElem_cons hkn
      have hget : bs.getD k 0 = bs[k] := by simp [List.getD, List.getElem?_eq_getElem hkn]
      rw [hdrop] at HD
      rw [hget] at hc
      generalize bs[k] = c at hc HD
      have hc256 : c.toNat < 256 := c.toNat_lt
      have hx := (rfl : hxd c = hxd c)
      conv at hx => rhs; unfold hxd
      clear hdrop hget
      by_cases hdig : 48 ≤ (c.toNat : Int) ∧ (c.toNat : Int) ≤ 57
      · rw [if_pos hdig] at hx
        obtain ⟨hd0, hd1⟩ := hdig
        have hxv := Lib.hid hx
        clear hx
        have hstep : Hid (pu16 a (c :: bs.drop (k + 1)) = if 1152921504606846976 ≤ a then none else pu16 (a * 16 + ((c.toNat : Int) - 48)) (bs.drop (k + 1))) := by
          show _ = _
          rw [pu16, hxv.out, if_neg (by omega)]
        by_cases hcut : 1152921504606846976 ≤ a
        · have HRN : Hid (R = none) := by show _ = _; rw [← HD.out, hstep.out, if_pos hcut]
          cases h95 : ((c.toNat : Int) == 95)
          all_goals
            go_wp2_with (go_at_call 99; refine (Tryd.internal_strconv_lower _ _).mono ?_; rintro e w' ⟨rfl, rfl⟩)
            go_ret2
            rw [HRN.out]
            exact ⟨.inr rfl, hBW.out⟩
        · have hcut' : a < 1152921504606846976 := by omega
          have HRN : Hid (pu16 (a * 16 + ((c.toNat : Int) - 48)) (bs.drop (k + 1)) = R) := by show _ = _; rw [← HD.out, hstep.out, if_neg hcut]
          have hov : a * 16 + ((c.toNat : Int) - 48) < 18446744073709551616 := by omega
          clear hcut
          cases h95 : ((c.toNat : Int) == 95)
          all_goals
            go_wp2_with (go_at_call 99; refine (Tryd.internal_strconv_lower _ _).mono ?_; rintro e w' ⟨rfl, rfl⟩)
            refine ⟨⟨k + 1, a * 16 + ((c.toNat : Int) - 48), rfl, (by first | rfl | (congr 1; omega)), (by first | rfl | (congr 1; omega)), by omega, by omega, hov, HRN⟩, by simp [intOf]; omega⟩
      · rw [if_neg hdig] at hx
        have hlo0 := bits_lo_u8 .or (c.toNat : Int) 32
        have hlo1 := bits_hi_u8 .or (c.toNat : Int) 32
        have hnd : ((c.toNat : Int) < 48) ∨ (48 ≤ (c.toNat : Int) ∧ 57 < (c.toNat : Int)) := by omega
        clear hdig
        obtain ⟨lo, hlo⟩ : ∃ lo, bits .or .u8 (c.toNat : Int) 32 = lo := ⟨_, rfl⟩
        have HLOW : Hid (∀ W, Calls Tryd.prog 99 #[.int .u8 (c.toNat : Int)] W fun e w' => e = .returned (.int .u8 lo) ∧ w' = W) := fun W => by rw [← hlo]; exact Tryd.internal_strconv_lower _ _
        rw [hlo] at hx hlo0 hlo1
        clear hlo
        by_cases hlet : 97 ≤ lo ∧ lo ≤ 122
        · rw [if_pos hlet] at hx
          obtain ⟨hl0, hl1⟩ := hlet
          have hxv := Lib.hid hx
          clear hx
          by_cases h16 : 16 ≤ lo - 97 + 10
          · have HRN : Hid (R = none) := by show _ = _; rw [← HD.out, pu16, hxv.out, if_pos h16]
            rcases hnd with hnd | ⟨hnd, hnd'⟩
            all_goals
              cases h95 : ((c.toNat : Int) == 95)
              all_goals
                go_wp2_with (go_at_call 99; refine (HLOW.out _).mono ?_; rintro e w' ⟨rfl, rfl⟩)
                go_ret2
                rw [HRN.out]
                exact ⟨.inl rfl, hBW.out⟩
          · have h16' : lo - 97 + 10 < 16 := by omega
            clear h16
            rcases hnd with hnd | ⟨hnd, hnd'⟩
            all_goals
              have hstep : Hid (pu16 a (c :: bs.drop (k + 1)) = if 1152921504606846976 ≤ a then none else pu16 (a * 16 + (lo - 97 + 10)) (bs.drop (k + 1))) := by
                show _ = _
                rw [pu16, hxv.out, if_neg (by omega)]
              by_cases hcut : 1152921504606846976 ≤ a
              · have HRN : Hid (R = none) := by show _ = _; rw [← HD.out, hstep.out, if_pos hcut]
                cases h95 : ((c.toNat : Int) == 95)
                all_goals
                  go_wp2_with (go_at_call 99; refine (HLOW.out _).mono ?_; rintro e w' ⟨rfl, rfl⟩)
                  go_ret2
                  rw [HRN.out]
                  exact ⟨.inr rfl, hBW.out⟩
              · have hcut' : a < 1152921504606846976 := by omega
                have HRN : Hid (pu16 (a * 16 + (lo - 97 + 10)) (bs.drop (k + 1)) = R) := by show _ = _; rw [← HD.out, hstep.out, if_neg hcut]
                have hov : a * 16 + (lo - 97 + 10) < 18446744073709551616 := by omega
                clear hcut
                cases h95 : ((c.toNat : Int) == 95)
                all_goals
                  go_wp2_with (go_at_call 99; refine (HLOW.out _).mono ?_; rintro e w' ⟨rfl, rfl⟩)
                  refine ⟨⟨k + 1, a * 16 + (lo - 97 + 10), rfl, (by first | rfl | (congr 1; omega)), (by first | rfl | (congr 1; omega)), by omega, by omega, hov, HRN⟩, by simp [intOf]; omega⟩
        · rw [if_neg hlet] at hx
          have hxv := Lib.hid hx
          clear hx
          have HRN : Hid (R = none) := by show _ = _; rw [← HD.out, pu16, hxv.out, if_pos (by omega)]
          have hlt' : lo < 97 ∨ (97 ≤ lo ∧ 122 < lo) := by omega
          clear hlet
          rcases hlt' with h1 | ⟨h1, h2⟩
          all_goals
            rcases hnd with hnd | ⟨hnd, hnd'⟩
            all_goals
              cases h95 : ((c.toNat : Int) == 95)
              all_goals
                go_wp2_with (go_at_call 99; refine (HLOW.out _).mono ?_; rintro e w' ⟨rfl, rfl⟩)
                go_ret2
                rw [HRN.out]
                exact ⟨.inl rfl, hBW.out⟩
    · obtain rfl : k = bs.length := by omega
      have HRN : Hid (R = some a) := by show _ = _; rw [← HD.out, List.drop_length]; rfl
      go_wp2
      go_ret2
      rw [HRN.out]
      exact ⟨rfl, hBW.out⟩

end Go.Proofs.YtgklbmcnpnmkkaaDoor
