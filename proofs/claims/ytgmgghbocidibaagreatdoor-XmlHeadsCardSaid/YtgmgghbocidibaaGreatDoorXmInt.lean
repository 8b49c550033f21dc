/-
  strconv.ParseInt at base 10 and 16, bit size 32, at up to seven digits.
-/
import Derived.Test.YtgmgghbocidibaaGreatDoorXmAttr
import Derived.Lib.ConvBytes
import Derived.Lib.AtoiAllMem
import Derived.Laws.Strings3
namespace Go.Proofs.YtgmgghbocidibaaGreatDoor
open Go.RowKit Go.Lib

theorem dig_at : ∀ n : Fin 256, digX 16 (UInt8.ofNat n.val) = true → ((48 ≤ (n.val : Int) ∧ (n.val : Int) ≤ 57 ∧ (digV (UInt8.ofNat n.val) : Int) = n.val - 48) ∨ (57 < (n.val : Int) ∧ 97 ≤ bits .or .u8 (n.val : Int) 32 ∧ bits .or .u8 (n.val : Int) 32 ≤ 122 ∧ bits .or .u8 (n.val : Int) 32 - 97 + 10 = (digV (UInt8.ofNat n.val) : Int) ∧ (n.val : Int) ≠ 95)) ∧ digV (UInt8.ofNat n.val) < 16 := by decide +kernel
theorem dig10_at : ∀ n : Fin 256, digX 10 (UInt8.ofNat n.val) = true → digX 16 (UInt8.ofNat n.val) = true ∧ (n.val : Int) ≤ 57 ∧ digV (UInt8.ofNat n.val) < 10 := by decide +kernel
theorem numX_snoc (base : Nat) (l : Bs) (c : UInt8) : numX base (l ++ [c]) = base * numX base l + digV c := by simp [numX]
theorem numX_lt {base : Nat} (hb : base ≤ 16) : ∀ (k : Nat) (l : Bs), l.length = k → (∀ c ∈ l, digV c < base) → numX base l < 16 ^ k
  | 0, l, h, _ => by have := List.eq_nil_of_length_eq_zero h; subst this; simp [numX]
  | k + 1, l, h, hd => by
    rcases List.eq_nil_or_concat l with rfl | ⟨m, c, rfl⟩
    · simp at h
    · rw [List.concat_eq_append] at *
      have h1 : m.length = k := by simpa using h
      have h2 := numX_lt hb k m h1 (fun x hx => hd x (by simp [hx]))
      have h3 := hd c (by simp)
      rw [numX_snoc, Nat.pow_succ]
      have h4 : base * numX base m ≤ 16 * numX base m := Nat.mul_le_mul_right _ hb
      omega
theorem numX_small {base : Nat} (hb : base ≤ 16) (l : Bs) (hl : l.length ≤ 7) (hd : ∀ c ∈ l, digV c < base) : numX base l < 268435456 := by
  have h1 := numX_lt hb l.length l rfl hd
  have h2 : 16 ^ l.length ≤ 16 ^ 7 := Nat.pow_le_pow_right (by decide) hl
  have h3 : (16 : Nat) ^ 7 = 268435456 := by decide
  omega

set_option maxHeartbeats 8000000 in
set_option maxRecDepth 100000 in
theorem parseUint_10 (bs : Bs) (hne : bs ≠ []) (h7 : bs.length ≤ 7) (hd : ∀ c ∈ bs, digX 10 c = true) (w : World) :
    Calls Tryz.prog 114 #[.string ⟨bs.toArray⟩, .int .i64 10, .int .i64 32] w fun e w' => e = .returned (.tuple #[.int .u64 (numX 10 bs : Int), .nilIface]) ∧ Below w.heap.size w w' := by
  have hsz : (⟨bs.toArray⟩ : ByteArray).size = bs.length := by simp [ByteArray.size]
  have hcv := Lib.run_convert_string_bytes (P := Tryz.prog) w 9 51 5 ⟨bs.toArray⟩ (u := .string) Tryz.underlying9 Tryz.underlying51 Tryz.underlying5
  have hB : ∀ j, j < bs.length → (Lib.bytesWorld w 5 ⟨bs.toArray⟩).cell? ⟨w.heap.size, j, none⟩ = some (.int .u8 (bs.getD j 0).toNat) := fun j hj => Lib.bytesWorld_cell w 5 ⟨bs.toArray⟩ j (by rw [hsz]; exact hj)
  have hBW := Lib.hid (below_bytesW w 5 ⟨bs.toArray⟩)
  have hemp : bs.isEmpty = false := by cases bs with | nil => exact absurd rfl hne | cons _ _ => rfl
  obtain ⟨W1, hW1⟩ : ∃ W1, W1 = Lib.bytesWorld w 5 ⟨bs.toArray⟩ := ⟨_, rfl⟩
  rw [← hW1] at hcv hB hBW
  clear hW1
  have HBS := Lib.hid hB
  have hmv : IntKind.u64.wrap (IntKind.u64.wrap 4294967296 - 1) = 4294967295 := by
    rw [IntKind.wrap_u64, IntKind.wrap_u64]
    decide
  have HDV : Hid (∀ c, digX 10 c = true → digV c < 10) := fun c hc => by
    have h1 := dig10_at ⟨c.toNat, c.toNat_lt⟩
    have h2 := dig_at ⟨c.toNat, c.toNat_lt⟩
    simp only [UInt8.ofNat_toNat] at h1 h2
    exact (h1 hc).2.2
  have hb16 : 10 ≤ 16 := by omega
  have HSM : Hid (∀ k, numX 10 (bs.take k) < 268435456) := fun k => numX_small hb16 _ (by rw [List.length_take]; omega) fun c hc => HDV.out c (hd c (List.mem_of_mem_take hc))
  have HDD := Lib.hid hd
  clear hB hsz hne hd hb16
  go_enter Tryz.func114, Tryz.ntmps114
  go_wp2
  go_loop [12, 13, 101] (fun vu vn vi => ∃ (k : Nat) (a : Int), vu = .bool false ∧ vn = .int .u64 a ∧ vi = .int .i64 k ∧ k ≤ bs.length ∧ 0 ≤ a ∧ a < 268435456 ∧ Hid (a = (numX 10 (bs.take k) : Int))) (fun _ _ vi => bs.length - (intOf vi).toNat)
  case atStart => exact ⟨0, 0, rfl, rfl, rfl, by omega, by omega, by omega, rfl⟩
  case round =>
    obtain ⟨k, a, rfl, rfl, rfl, hk, ha0, ha1, HD⟩ := hrel
    by_cases hkn : k < bs.length
    · have hc := HBS.out k hkn
      have hget : bs.getD k 0 = bs[k] := by simp [List.getD, List.getElem?_eq_getElem hkn]
      rw [hget] at hc
      have HTK : Hid (bs.take (k + 1) = bs.take k ++ [bs[k]]) := by show _ = _; rw [List.take_add_one, List.getElem?_eq_getElem hkn]; rfl
      have HDC := Lib.hid (HDD.out bs[k] (List.getElem_mem hkn))
      have hsm := HSM.out (k + 1)
      generalize bs[k] = c at hc HTK HDC
      have hc256 : c.toNat < 256 := c.toNat_lt
      rw [HTK.out, numX_snoc] at hsm
      have HSM2 := Lib.hid hsm
      clear hsm hget
      have hdg := dig_at ⟨c.toNat, c.toNat_lt⟩
      have hdg10 := dig10_at ⟨c.toNat, c.toNat_lt⟩
      simp only [UInt8.ofNat_toNat] at hdg hdg10
      obtain ⟨h16, h57, hlt⟩ := hdg10 (by exact HDC.out)
      obtain ⟨hdg', -⟩ := hdg h16
      have h48 : 48 ≤ (c.toNat : Int) ∧ (digV c : Int) = c.toNat - 48 := by
        rcases hdg' with h | h
        · exact ⟨h.1, h.2.2⟩
        · omega
      obtain ⟨h48, hv⟩ := h48
      have hov : a * 10 + ((c.toNat : Int) - 48) < 268435456 := by have := HSM2.out; have := HD.out; omega
      have HV := Lib.hid hv
      clear hdg hdg10 hdg' h16 hv hlt
      cases h95 : ((c.toNat : Int) == 95)
      all_goals
        go_wp2_with (go_at_call 128; refine (Tryz.internal_strconv_lower _ _).mono ?_; rintro e w' ⟨rfl, rfl⟩)
        refine ⟨⟨k + 1, a * 10 + ((c.toNat : Int) - 48), rfl, (by first | rfl | (congr 1; omega)), (by first | rfl | (congr 1; omega)), by omega, by omega, hov, by show _ = _; rw [HTK.out, numX_snoc]; have := HV.out; have := HD.out; omega⟩, by simp [intOf]; omega⟩
    · obtain rfl : k = bs.length := by omega
      have HRN : Hid (a = (numX 10 bs : Int)) := by have := HD.out; rwa [List.take_length] at this
      go_wp2
      go_ret2
      exact ⟨by rw [← HRN.out]; rfl, hBW.out⟩

set_option maxHeartbeats 8000000 in
set_option maxRecDepth 100000 in
theorem parseUint_16 (bs : Bs) (hne : bs ≠ []) (h7 : bs.length ≤ 7) (hd : ∀ c ∈ bs, digX 16 c = true) (w : World) :
    Calls Tryz.prog 114 #[.string ⟨bs.toArray⟩, .int .i64 16, .int .i64 32] w fun e w' => e = .returned (.tuple #[.int .u64 (numX 16 bs : Int), .nilIface]) ∧ Below w.heap.size w w' := by
  have hsz : (⟨bs.toArray⟩ : ByteArray).size = bs.length := by simp [ByteArray.size]
  have hcv := Lib.run_convert_string_bytes (P := Tryz.prog) w 9 51 5 ⟨bs.toArray⟩ (u := .string) Tryz.underlying9 Tryz.underlying51 Tryz.underlying5
  have hB : ∀ j, j < bs.length → (Lib.bytesWorld w 5 ⟨bs.toArray⟩).cell? ⟨w.heap.size, j, none⟩ = some (.int .u8 (bs.getD j 0).toNat) := fun j hj => Lib.bytesWorld_cell w 5 ⟨bs.toArray⟩ j (by rw [hsz]; exact hj)
  have hBW := Lib.hid (below_bytesW w 5 ⟨bs.toArray⟩)
  have hemp : bs.isEmpty = false := by cases bs with | nil => exact absurd rfl hne | cons _ _ => rfl
  obtain ⟨W1, hW1⟩ : ∃ W1, W1 = Lib.bytesWorld w 5 ⟨bs.toArray⟩ := ⟨_, rfl⟩
  rw [← hW1] at hcv hB hBW
  clear hW1
  have HBS := Lib.hid hB
  have hmv : IntKind.u64.wrap (IntKind.u64.wrap 4294967296 - 1) = 4294967295 := by
    rw [IntKind.wrap_u64, IntKind.wrap_u64]
    decide
  have HDV : Hid (∀ c, digX 16 c = true → digV c < 16) := fun c hc => by
    have h1 := dig10_at ⟨c.toNat, c.toNat_lt⟩
    have h2 := dig_at ⟨c.toNat, c.toNat_lt⟩
    simp only [UInt8.ofNat_toNat] at h1 h2
    exact (h2 hc).2
  have hb16 : 16 ≤ 16 := by omega
  have HSM : Hid (∀ k, numX 16 (bs.take k) < 268435456) := fun k => numX_small hb16 _ (by rw [List.length_take]; omega) fun c hc => HDV.out c (hd c (List.mem_of_mem_take hc))
  have HDD := Lib.hid hd
  clear hB hsz hne hd hb16
  go_enter Tryz.func114, Tryz.ntmps114
  go_wp2
  go_loop [12, 13, 101] (fun vu vn vi => ∃ (k : Nat) (a : Int), vu = .bool false ∧ vn = .int .u64 a ∧ vi = .int .i64 k ∧ k ≤ bs.length ∧ 0 ≤ a ∧ a < 268435456 ∧ Hid (a = (numX 16 (bs.take k) : Int))) (fun _ _ vi => bs.length - (intOf vi).toNat)
  case atStart => exact ⟨0, 0, rfl, rfl, rfl, by omega, by omega, by omega, rfl⟩
  case round =>
    obtain ⟨k, a, rfl, rfl, rfl, hk, ha0, ha1, HD⟩ := hrel
    by_cases hkn : k < bs.length
    · have hc := HBS.out k hkn
      have hget : bs.getD k 0 = bs[k] := by simp [List.getD, List.getElem?_eq_getElem hkn]
      rw [hget] at hc
      have HTK : Hid (bs.take (k + 1) = bs.take k ++ [bs[k]]) := by show _ = _; rw [List.take_add_one, List.getElem?_eq_getElem hkn]; rfl
      have HDC := Lib.hid (HDD.out bs[k] (List.getElem_mem hkn))
      have hsm := HSM.out (k + 1)
      generalize bs[k] = c at hc HTK HDC
      have hc256 : c.toNat < 256 := c.toNat_lt
      rw [HTK.out, numX_snoc] at hsm
      have HSM2 := Lib.hid hsm
      clear hsm hget
      have hdg := dig_at ⟨c.toNat, c.toNat_lt⟩
      have hdg10 := dig10_at ⟨c.toNat, c.toNat_lt⟩
      simp only [UInt8.ofNat_toNat] at hdg hdg10
      obtain ⟨hdg', hlt⟩ := hdg (by exact HDC.out)
      clear hdg hdg10
      rcases hdg' with ⟨h48, h57, hv⟩ | ⟨h57, hl0, hl1, hv, h95n⟩
      · have hov : a * 16 + ((c.toNat : Int) - 48) < 268435456 := by have := HSM2.out; have := HD.out; omega
        have HV := Lib.hid hv
        clear hv hlt
        cases h95 : ((c.toNat : Int) == 95)
        all_goals
          go_wp2_with (go_at_call 128; refine (Tryz.internal_strconv_lower _ _).mono ?_; rintro e w' ⟨rfl, rfl⟩)
          refine ⟨⟨k + 1, a * 16 + ((c.toNat : Int) - 48), rfl, (by first | rfl | (congr 1; omega)), (by first | rfl | (congr 1; omega)), by omega, by omega, hov, by show _ = _; rw [HTK.out, numX_snoc]; have := HV.out; have := HD.out; omega⟩, by simp [intOf]; omega⟩
      · obtain ⟨lo, hlo⟩ : ∃ lo, bits .or .u8 (c.toNat : Int) 32 = lo := ⟨_, rfl⟩
        have HLOW : Hid (∀ W, Calls Tryz.prog 128 #[.int .u8 (c.toNat : Int)] W fun e w' => e = .returned (.int .u8 lo) ∧ w' = W) := fun W => by rw [← hlo]; exact Tryz.internal_strconv_lower _ _
        rw [hlo] at hl0 hl1 hv
        clear hlo
        have hov : a * 16 + (lo - 97 + 10) < 268435456 := by have := HSM2.out; have := HD.out; omega
        have h48 : 48 ≤ (c.toNat : Int) := by omega
        have hl16 : lo - 97 + 10 < 16 := by omega
        have HV := Lib.hid hv
        have h95 : ((c.toNat : Int) == 95) = false := beq_eq_false_iff_ne.2 h95n
        clear hv hlt h95n
        go_wp2_with (go_at_call 128; refine (HLOW.out _).mono ?_; rintro e w' ⟨rfl, rfl⟩)
        refine ⟨⟨k + 1, a * 16 + (lo - 97 + 10), rfl, (by first | rfl | (congr 1; omega)), (by first | rfl | (congr 1; omega)), by omega, by omega, hov, by show _ = _; rw [HTK.out, numX_snoc]; have := HV.out; have := HD.out; omega⟩, by simp [intOf]; omega⟩
    · obtain rfl : k = bs.length := by omega
      have HRN : Hid (a = (numX 16 bs : Int)) := by have := HD.out; rwa [List.take_length] at this
      go_wp2
      go_ret2
      exact ⟨by rw [← HRN.out]; rfl, hBW.out⟩
end Go.Proofs.YtgmgghbocidibaaGreatDoor
