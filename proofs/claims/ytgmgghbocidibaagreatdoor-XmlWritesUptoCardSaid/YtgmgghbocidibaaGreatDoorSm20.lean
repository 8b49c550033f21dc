/-
  SEVERAL SMALL TEXTS IN ONE.
-/
import Derived.Test.YtgmgghbocidibaaGreatDoorXmAttr
import Derived.Lib.ConvBytes
import Derived.Lib.AtoiAllMem
import Derived.Laws.Strings3
import Derived.Test.YtgmgghbocidibaaGreatDoorSm0
import Derived.Lib.ItoaMem
import Derived.Lib.IfaceNeq
import Derived.Lib.AppendStr
/-
  strconv.ParseInt at base 10 and 16, bit size 32, at up to seven digits.
-/
namespace Go.Proofs.YtgmgghbocidibaaGreatDoor
open Go.RowKit Go.Lib

theorem dig_at : ∀ n : Fin 256, digX 16 (UInt8.ofNat n.val) = true → ((48 ≤ (n.val : Int) ∧ (n.val : Int) ≤ 57 ∧ (digV (UInt8.ofNat n.val) : Int) = n.val - 48) ∨ (57 < (n.val : Int) ∧ 97 ≤ bits .or .u8 (n.val : Int) 32 ∧ bits .or .u8 (n.val : Int) 32 ≤ 122 ∧ bits .or .u8 (n.val : Int) 32 - 97 + 10 = (digV (UInt8.ofNat n.val) : Int) ∧ (n.val : Int) ≠ 95)) ∧ digV (UInt8.ofNat n.val) < 16 := by decide +kernel
theorem dig10_at : ∀ n : Fin 256, digX 10 (UInt8.ofNat n.val) = true → digX 16 (UInt8.ofNat n.val) = true ∧ (n.val : Int) ≤ 57 ∧ digV (UInt8.ofNat n.val) < 10 := by decide +kernel
theorem numX_snoc (base : Nat) (l : Bs) (c : UInt8) : numX base (l ++ [c]) = base * numX base l + digV c := by simp [numX]
theorem numX_lt {base : Nat} (hb : base ≤ 16) : ∀ (k : Nat) (l : Bs), l.length = k → (∀ c ∈ l, digV c < base) → numX base l < 16 ^ k
  | 0, l, h, _ => by have := List.eq_nil_of_length_eq_zero h; subst this; simp [numX]
  | k + 1, l, h, hd => by
    rcases List.eq_nil_or_concat l with rfl | ⟨m, c, rfl⟩
    · simp at h
    · rw [List.concat_eq_append] at *
      have h1 : m.length = k := by simpa using h
      have h2 := numX_lt hb k m h1 (fun x hx => hd x (by simp [hx]))
      have h3 := hd c (by simp)
      rw [numX_snoc, Nat.pow_succ]
      have h4 : base * numX base m ≤ 16 * numX base m := Nat.mul_le_mul_right _ hb
      omega
theorem numX_small {base : Nat} (hb : base ≤ 16) (l : Bs) (hl : l.length ≤ 7) (hd : ∀ c ∈ l, digV c < base) : numX base l < 268435456 := by
  have h1 := numX_lt hb l.length l rfl hd
  have h2 : 16 ^ l.length ≤ 16 ^ 7 := Nat.pow_le_pow_right (by decide) hl
  have h3 : (16 : Nat) ^ 7 = 268435456 := by decide
  omega

set_option maxHeartbeats 8000000 in
set_option maxRecDepth 100000 in
theorem parseUint_10 (bs : Bs) (hne : bs ≠ []) (h7 : bs.length ≤ 7) (hd : ∀ c ∈ bs, digX 10 c = true) (w : World) :
    Calls Tryz.prog 114 #[.string ⟨bs.toArray⟩, .int .i64 10, .int .i64 32] w fun e w' => e = .returned (.tuple #[.int .u64 (numX 10 bs : Int), .nilIface]) ∧ Below w.heap.size w w' := by
  have hsz : (⟨bs.toArray⟩ : ByteArray).size = bs.length := by simp [ByteArray.size]
  have hcv := Lib.run_convert_string_bytes (P := Tryz.prog) w 9 51 5 ⟨bs.toArray⟩ (u := .string) Tryz.underlying9 Tryz.underlying51 Tryz.underlying5
  have hB : ∀ j, j < bs.length → (Lib.bytesWorld w 5 ⟨bs.toArray⟩).cell? ⟨w.heap.size, j, none⟩ = some (.int .u8 (bs.getD j 0).toNat) := fun j hj => Lib.bytesWorld_cell w 5 ⟨bs.toArray⟩ j (by rw [hsz]; exact hj)
  have hBW := Lib.hid (below_bytesW w 5 ⟨bs.toArray⟩)
  have hemp : bs.isEmpty = false := by cases bs with | nil => exact absurd rfl hne | cons _ _ => rfl
  obtain ⟨W1, hW1⟩ : ∃ W1, W1 = Lib.bytesWorld w 5 ⟨bs.toArray⟩ := ⟨_, rfl⟩
  rw [← hW1] at hcv hB hBW
  clear hW1
  have HBS := Lib.hid hB
  have hmv : IntKind.u64.wrap (IntKind.u64.wrap 4294967296 - 1) = 4294967295 := by
    rw [IntKind.wrap_u64, IntKind.wrap_u64]
    decide
  have HDV : Hid (∀ c, digX 10 c = true → digV c < 10) := fun c hc => by
    have h1 := dig10_at ⟨c.toNat, c.toNat_lt⟩
    have h2 := dig_at ⟨c.toNat, c.toNat_lt⟩
    simp only [UInt8.ofNat_toNat] at h1 h2
    exact (h1 hc).2.2
  have hb16 : 10 ≤ 16 := by omega
  have HSM : Hid (∀ k, numX 10 (bs.take k) < 268435456) := fun k => numX_small hb16 _ (by rw [List.length_take]; omega) fun c hc => HDV.out c (hd c (List.mem_of_mem_take hc))
  have HDD := Lib.hid hd
  clear hB hsz hne hd hb16
  go_enter Tryz.func114, Tryz.ntmps114
  go_wp2
  go_loop [12, 13, 101] (fun vu vn vi => ∃ (k : Nat) (a : Int), vu = .bool false ∧ vn = .int .u64 a ∧ vi = .int .i64 k ∧ k ≤ bs.length ∧ 0 ≤ a ∧ a < 268435456 ∧ Hid (a = (numX 10 (bs.take k) : Int))) (fun _ _ vi => bs.length - (intOf vi).toNat)
  case atStart => exact ⟨0, 0, rfl, rfl, rfl, by omega, by omega, by omega, rfl⟩
  case round =>
    obtain ⟨k, a, rfl, rfl, rfl, hk, ha0, ha1, HD⟩ := hrel
    by_cases hkn : k < bs.length
    · have hc := HBS.out k hkn
      have hget : bs.getD k 0 = bs[k] := by simp [List.getD, List.getElem?_eq_getElem hkn]
      rw [hget] at hc
      have HTK : Hid (bs.take (k + 1) = bs.take k ++ [bs[k]]) := by show _ = _; rw [List.take_add_one, List.getElem?_eq_getElem hkn]; rfl
      have HDC := Lib.hid (HDD.out bs[k] (List.getElem_mem hkn))
      have hsm := HSM.out (k + 1)
      generalize bs[k] = c at hc HTK HDC
      have hc256 : c.toNat < 256 := c.toNat_lt
      rw [HTK.out, numX_snoc] at hsm
      have HSM2 := Lib.hid hsm
      clear hsm hget
      have hdg := dig_at ⟨c.toNat, c.toNat_lt⟩
      have hdg10 := dig10_at ⟨c.toNat, c.toNat_lt⟩
      simp only [UInt8.ofNat_toNat] at hdg hdg10
      obtain ⟨h16, h57, hlt⟩ := hdg10 (by exact HDC.out)
      obtain ⟨hdg', -⟩ := hdg h16
      have h48 : 48 ≤ (c.toNat : Int) ∧ (digV c : Int) = c.toNat - 48 := by
        rcases hdg' with h | h
        · exact ⟨h.1, h.2.2⟩
        · omega
      obtain ⟨h48, hv⟩ := h48
      have hov : a * 10 + ((c.toNat : Int) - 48) < 268435456 := by have := HSM2.out; have := HD.out; omega
      have HV := Lib.hid hv
      clear hdg hdg10 hdg' h16 hv hlt
      cases h95 : ((c.toNat : Int) == 95)
      all_goals
        go_wp2_with (go_at_call 128; refine (Tryz.internal_strconv_lower _ _).mono ?_; rintro e w' ⟨rfl, rfl⟩)
        refine ⟨⟨k + 1, a * 10 + ((c.toNat : Int) - 48), rfl, (by first | rfl | (congr 1; omega)), (by first | rfl | (congr 1; omega)), by omega, by omega, hov, by show _ = _; rw [HTK.out, numX_snoc]; have := HV.out; have := HD.out; omega⟩, by simp [intOf]; omega⟩
    · obtain rfl : k = bs.length := by omega
      have HRN : Hid (a = (numX 10 bs : Int)) := by have := HD.out; rwa [List.take_length] at this
      go_wp2
      go_ret2
      exact ⟨by rw [← HRN.out]; rfl, hBW.out⟩

set_option maxHeartbeats 8000000 in
set_option maxRecDepth 100000 in
theorem parseUint_16 (bs : Bs) (hne : bs ≠ []) (h7 : bs.length ≤ 7) (hd : ∀ c ∈ bs, digX 16 c = true) (w : World) :
    Calls Tryz.prog 114 #[.string ⟨bs.toArray⟩, .int .i64 16, .int .i64 32] w fun e w' => e = .returned (.tuple #[.int .u64 (numX 16 bs : Int), .nilIface]) ∧ Below w.heap.size w w' := by
  have hsz : (⟨bs.toArray⟩ : ByteArray).size = bs.length := by simp [ByteArray.size]
  have hcv := Lib.run_convert_string_bytes (P := Tryz.prog) w 9 51 5 ⟨bs.toArray⟩ (u := .string) Tryz.underlying9 Tryz.underlying51 Tryz.underlying5
  have hB : ∀ j, j < bs.length → (Lib.bytesWorld w 5 ⟨bs.toArray⟩).cell? ⟨w.heap.size, j, none⟩ = some (.int .u8 (bs.getD j 0).toNat) := fun j hj => Lib.bytesWorld_cell w 5 ⟨bs.toArray⟩ j (by rw [hsz]; exact hj)
  have hBW := Lib.hid (below_bytesW w 5 ⟨bs.toArray⟩)
  have hemp : bs.isEmpty = false := by cases bs with | nil => exact absurd rfl hne | cons _ _ => rfl
  obtain ⟨W1, hW1⟩ : ∃ W1, W1 = Lib.bytesWorld w 5 ⟨bs.toArray⟩ := ⟨_, rfl⟩
  rw [← hW1] at hcv hB hBW
  clear hW1
  have HBS := Lib.hid hB
  have hmv : IntKind.u64.wrap (IntKind.u64.wrap 4294967296 - 1) = 4294967295 := by
    rw [IntKind.wrap_u64, IntKind.wrap_u64]
    decide
  have HDV : Hid (∀ c, digX 16 c = true → digV c < 16) := fun c hc => by
    have h1 := dig10_at ⟨c.toNat, c.toNat_lt⟩
    have h2 := dig_at ⟨c.toNat, c.toNat_lt⟩
    simp only [UInt8.ofNat_toNat] at h1 h2
    exact (h2 hc).2
  have hb16 : 16 ≤ 16 := by omega
  have HSM : Hid (∀ k, numX 16 (bs.take k) < 268435456) := fun k => numX_small hb16 _ (by rw [List.length_take]; omega) fun c hc => HDV.out c (hd c (List.mem_of_mem_take hc))
  have HDD := Lib.hid hd
  clear hB hsz hne hd hb16
  go_enter Tryz.func114, Tryz.ntmps114
  go_wp2
  go_loop [12, 13, 101] (fun vu vn vi => ∃ (k : Nat) (a : Int), vu = .bool false ∧ vn = .int .u64 a ∧ vi = .int .i64 k ∧ k ≤ bs.length ∧ 0 ≤ a ∧ a < 268435456 ∧ Hid (a = (numX 16 (bs.take k) : Int))) (fun _ _ vi => bs.length - (intOf vi).toNat)
  case atStart => exact ⟨0, 0, rfl, rfl, rfl, by omega, by omega, by omega, rfl⟩
  case round =>
    obtain ⟨k, a, rfl, rfl, rfl, hk, ha0, ha1, HD⟩ := hrel
    by_cases hkn : k < bs.length
    · have hc := HBS.out k hkn
      have hget : bs.getD k 0 = bs[k] := by simp [List.getD, List.getElem?_eq_getElem hkn]
      rw [hget] at hc
      have HTK : Hid (bs.take (k + 1) = bs.take k ++ [bs[k]]) := by show _ = _; rw [List.take_add_one, List.getElem?_eq_getElem hkn]; rfl
      have HDC := Lib.hid (HDD.out bs[k] (List.getElem_mem hkn))
      have hsm := HSM.out (k + 1)
      generalize bs[k] = c at hc HTK HDC
      have hc256 : c.toNat < 256 := c.toNat_lt
      rw [HTK.out, numX_snoc] at hsm
      have HSM2 := Lib.hid hsm
      clear hsm hget
      have hdg := dig_at ⟨c.toNat, c.toNat_lt⟩
      have hdg10 := dig10_at ⟨c.toNat, c.toNat_lt⟩
      simp only [UInt8.ofNat_toNat] at hdg hdg10
      obtain ⟨hdg', hlt⟩ := hdg (by exact HDC.out)
      clear hdg hdg10
      rcases hdg' with ⟨h48, h57, hv⟩ | ⟨h57, hl0, hl1, hv, h95n⟩
      · have hov : a * 16 + ((c.toNat : Int) - 48) < 268435456 := by have := HSM2.out; have := HD.out; omega
        have HV := Lib.hid hv
        clear hv hlt
        cases h95 : ((c.toNat : Int) == 95)
        all_goals
          go_wp2_with (go_at_call 128; refine (Tryz.internal_strconv_lower _ _).mono ?_; rintro e w' ⟨rfl, rfl⟩)
          refine ⟨⟨k + 1, a * 16 + ((c.toNat : Int) - 48), rfl, (by first | rfl | (congr 1; omega)), (by first | rfl | (congr 1; omega)), by omega, by omega, hov, by show _ = _; rw [HTK.out, numX_snoc]; have := HV.out; have := HD.out; omega⟩, by simp [intOf]; omega⟩
      · obtain ⟨lo, hlo⟩ : ∃ lo, bits .or .u8 (c.toNat : Int) 32 = lo := ⟨_, rfl⟩
        have HLOW : Hid (∀ W, Calls Tryz.prog 128 #[.int .u8 (c.toNat : Int)] W fun e w' => e = .returned (.int .u8 lo) ∧ w' = W) := fun W => by rw [← hlo]; exact Tryz.internal_strconv_lower _ _
        rw [hlo] at hl0 hl1 hv
        clear hlo
        have hov : a * 16 + (lo - 97 + 10) < 268435456 := by have := HSM2.out; have := HD.out; omega
        have h48 : 48 ≤ (c.toNat : Int) := by omega
        have hl16 : lo - 97 + 10 < 16 := by omega
        have HV := Lib.hid hv
        have h95 : ((c.toNat : Int) == 95) = false := beq_eq_false_iff_ne.2 h95n
        clear hv hlt h95n
        go_wp2_with (go_at_call 128; refine (HLOW.out _).mono ?_; rintro e w' ⟨rfl, rfl⟩)
        refine ⟨⟨k + 1, a * 16 + (lo - 97 + 10), rfl, (by first | rfl | (congr 1; omega)), (by first | rfl | (congr 1; omega)), by omega, by omega, hov, by show _ = _; rw [HTK.out, numX_snoc]; have := HV.out; have := HD.out; omega⟩, by simp [intOf]; omega⟩
    · obtain rfl : k = bs.length := by omega
      have HRN : Hid (a = (numX 16 bs : Int)) := by have := HD.out; rwa [List.take_length] at this
      go_wp2
      go_ret2
      exact ⟨by rw [← HRN.out]; rfl, hBW.out⟩
end Go.Proofs.YtgmgghbocidibaaGreatDoor

/-
  What the listed package-level variables hold, as far as the walks want it; kept.
-/
namespace Go.Proofs.YtgmgghbocidibaaGreatDoor
open Go.RowKit

/-- what the listed variables hold, as far as the walks want it -/
structure Glob (w : World) : Prop where
  size : 6 ≤ w.heap.size
  tz : w.cell? ⟨7, 15, none⟩ = some (.int .u8 4)
  pow : Lib.TabIs Tryz.prog w "internal/strconv.uint64pow10" .u64 Lib.pow10Tab
  esyn : ∃ te pe, w.cell? ⟨3, 0, none⟩ = some (.iface te pe)
  eran : ∃ te pe, w.cell? ⟨4, 0, none⟩ = some (.iface te pe)

theorem Glob.later {w w' : World} (h : Glob w) (hb : Below w.heap.size w w') : Glob w' :=
  ⟨Nat.le_trans h.size hb.size, cell_later hb h.tz, var?_below (g := 5) hb (by kernel_rfl) (by have := h.size; omega) h.pow,
    by obtain ⟨a, b, c⟩ := h.esyn; exact ⟨a, b, cell_later hb c⟩, by obtain ⟨a, b, c⟩ := h.eran; exact ⟨a, b, cell_later hb c⟩⟩

end Go.Proofs.YtgmgghbocidibaaGreatDoor

/-
  strconv.ParseInt at base 10 and 16, bit size 32.
-/
namespace Go.Proofs.YtgmgghbocidibaaGreatDoor
open Go.RowKit Go.Lib

theorem strHead (c : UInt8) (r : List UInt8) : (⟨(c :: r).toArray⟩ : ByteArray)[0]'(by simp [ByteArray.size]) = c := by simp [ByteArray.getElem_eq_getElem_data]
theorem dig_sign : ∀ n : Fin 256, digX 16 (UInt8.ofNat n.val) = true → (n.val : Int) ≠ 43 ∧ (n.val : Int) ≠ 45 := by decide +kernel
theorem dig_up (c : UInt8) (h : digX 10 c = true) : digX 16 c = true := by
  have h1 := dig10_at ⟨c.toNat, c.toNat_lt⟩
  simp only [UInt8.ofNat_toNat] at h1
  exact (h1 h).1

set_option maxHeartbeats 4000000 in
set_option maxRecDepth 100000 in
theorem iParseInt_10 (c : UInt8) (r : Bs) (h7 : (c :: r).length ≤ 7) (hd : ∀ x ∈ c :: r, digX 10 x = true) (w : World) :
    Calls Tryz.prog 100 #[.string ⟨(c :: r).toArray⟩, .int .i64 10, .int .i64 32] w fun e w' => e = .returned (.tuple #[.int .i64 (numX 10 (c :: r) : Int), .nilIface]) ∧ Below w.heap.size w w' := by
  have hs := dig_sign ⟨c.toNat, c.toNat_lt⟩ (by simp only [UInt8.ofNat_toNat]; exact dig_up _ (hd c (by simp)))
  have h1 : ((c.toNat : Int) == 43) = false := beq_eq_false_iff_ne.2 hs.1
  have h2 : ((c.toNat : Int) == 45) = false := beq_eq_false_iff_ne.2 hs.2
  have hh := strHead c r
  have HU := Lib.hid (fun W => parseUint_10 (c :: r) (by simp) h7 hd W)
  have hv1 : (numX 10 (c :: r) : Int) < 268435456 := by
    have := numX_small (base := 10) (by omega) (c :: r) h7 (fun x hx => by
      have k1 := dig10_at ⟨x.toNat, x.toNat_lt⟩
      have k2 := dig_at ⟨x.toNat, x.toNat_lt⟩
      simp only [UInt8.ofNat_toNat] at k1 k2
      exact (k1 (hd x hx)).2.2)
    omega
  have hv0 : 0 ≤ (numX 10 (c :: r) : Int) := by omega
  obtain ⟨v, hv⟩ : ∃ v : Int, (numX 10 (c :: r) : Int) = v := ⟨_, rfl⟩
  rw [hv] at hv0 hv1 HU ⊢
  clear hs h7 hd hv
  go_enter Tryz.func100, Tryz.ntmps100
  go_wp2_with fail
  refine (HU.out _).mono ?_
  rintro e w1 ⟨rfl, hb1⟩
  have B1 := Lib.hid hb1
  clear hb1
  go_wp2
  go_ret2
  exact ⟨rfl, B1.out⟩
set_option maxHeartbeats 4000000 in
set_option maxRecDepth 100000 in
theorem xparseInt_10 (l : Bs) (hne : l ≠ []) (h7 : l.length ≤ 7) (hd : ∀ x ∈ l, digX 10 x = true) (w : World) :
    Calls Tryz.prog 79 #[.string ⟨l.toArray⟩, .int .i64 10, .int .i64 32] w fun e w' => e = .returned (.tuple #[.int .i64 (numX 10 l : Int), .nilIface]) ∧ Below w.heap.size w w' := by
  obtain ⟨c, r, rfl⟩ : ∃ c r, l = c :: r := by cases l with | nil => exact absurd rfl hne | cons c r => exact ⟨c, r, rfl⟩
  have HU := Lib.hid (fun W => iParseInt_10 c r h7 hd W)
  clear h7 hd hne
  go_enter Tryz.func79, Tryz.ntmps79
  go_wp2_with fail
  refine (HU.out _).mono ?_
  rintro e w1 ⟨rfl, hb1⟩
  have B1 := Lib.hid hb1
  clear hb1
  go_wp2
  go_ret2
  exact ⟨rfl, B1.out⟩

set_option maxHeartbeats 4000000 in
set_option maxRecDepth 100000 in
theorem iParseInt_16 (c : UInt8) (r : Bs) (h7 : (c :: r).length ≤ 7) (hd : ∀ x ∈ c :: r, digX 16 x = true) (w : World) :
    Calls Tryz.prog 100 #[.string ⟨(c :: r).toArray⟩, .int .i64 16, .int .i64 32] w fun e w' => e = .returned (.tuple #[.int .i64 (numX 16 (c :: r) : Int), .nilIface]) ∧ Below w.heap.size w w' := by
  have hs := dig_sign ⟨c.toNat, c.toNat_lt⟩ (by simp only [UInt8.ofNat_toNat]; exact hd c (by simp))
  have h1 : ((c.toNat : Int) == 43) = false := beq_eq_false_iff_ne.2 hs.1
  have h2 : ((c.toNat : Int) == 45) = false := beq_eq_false_iff_ne.2 hs.2
  have hh := strHead c r
  have HU := Lib.hid (fun W => parseUint_16 (c :: r) (by simp) h7 hd W)
  have hv1 : (numX 16 (c :: r) : Int) < 268435456 := by
    have := numX_small (base := 16) (by omega) (c :: r) h7 (fun x hx => by
      have k1 := dig10_at ⟨x.toNat, x.toNat_lt⟩
      have k2 := dig_at ⟨x.toNat, x.toNat_lt⟩
      simp only [UInt8.ofNat_toNat] at k1 k2
      exact (k2 (hd x hx)).2)
    omega
  have hv0 : 0 ≤ (numX 16 (c :: r) : Int) := by omega
  obtain ⟨v, hv⟩ : ∃ v : Int, (numX 16 (c :: r) : Int) = v := ⟨_, rfl⟩
  rw [hv] at hv0 hv1 HU ⊢
  clear hs h7 hd hv
  go_enter Tryz.func100, Tryz.ntmps100
  go_wp2_with fail
  refine (HU.out _).mono ?_
  rintro e w1 ⟨rfl, hb1⟩
  have B1 := Lib.hid hb1
  clear hb1
  go_wp2
  go_ret2
  exact ⟨rfl, B1.out⟩
set_option maxHeartbeats 4000000 in
set_option maxRecDepth 100000 in
theorem xparseInt_16 (l : Bs) (hne : l ≠ []) (h7 : l.length ≤ 7) (hd : ∀ x ∈ l, digX 16 x = true) (w : World) :
    Calls Tryz.prog 79 #[.string ⟨l.toArray⟩, .int .i64 16, .int .i64 32] w fun e w' => e = .returned (.tuple #[.int .i64 (numX 16 l : Int), .nilIface]) ∧ Below w.heap.size w w' := by
  obtain ⟨c, r, rfl⟩ : ∃ c r, l = c :: r := by cases l with | nil => exact absurd rfl hne | cons c r => exact ⟨c, r, rfl⟩
  have HU := Lib.hid (fun W => iParseInt_16 c r h7 hd W)
  clear h7 hd hne
  go_enter Tryz.func79, Tryz.ntmps79
  go_wp2_with fail
  refine (HU.out _).mono ?_
  rintro e w1 ⟨rfl, hb1⟩
  have B1 := Lib.hid hb1
  clear hb1
  go_wp2
  go_ret2
  exact ⟨rfl, B1.out⟩

set_option maxHeartbeats 4000000 in
set_option maxRecDepth 100000 in
/-- .. at no digits: an error -/
theorem xparseInt_nil (base : Int) (w : World) (hg : Glob w) :
    Calls Tryz.prog 79 #[.string ⟨#[]⟩, .int .i64 base, .int .i64 32] w fun e w' => (∃ N, e = .returned (.tuple #[.int .i64 0, .iface 185 (.pointer (some ⟨N, 0, none⟩))])) ∧ Below w.heap.size w w' := by
  have HU := Lib.hid (fun W => Tryz.internal_strconv_ParseInt_empty base 32 W)
  obtain ⟨te, pe, hv⟩ := hg.esyn
  clear hg
  go_enter Tryz.func79, Tryz.ntmps79
  go_wp2_with fail
  refine (HU.out _).mono ?_
  rintro e w1 ⟨rfl, rfl⟩
  go_wp2_with fail
  refine (Tryz.strconv_toError_syntax _ ⟨#[]⟩ _ _ _ _ (by decide) hv (.inr ⟨te, pe, rfl⟩)).mono ?_
  rintro e w2 ⟨N, rfl, _, _, hb⟩
  have B2 := Lib.hid hb
  clear hb hv
  go_wp2
  go_ret2
  exact ⟨⟨N, rfl⟩, B2.out⟩
end Go.Proofs.YtgmgghbocidibaaGreatDoor

/-
  append of a text onto a row of bytes of the call's own: and where the new row lies.
-/
namespace Go.Proofs.YtgmgghbocidibaaGreatDoor
open Go.RowKit Go.Lib

section
variable {P : Program} (w : World)

theorem run_append_string_at (base : Nat) (t u ty e : TypeId) (i : TypeInfo) (ht : P.underlying t = some (.slice e)) (hu : P.underlying u = some .string) (hi : P.info? e = some i) (hz : i.zero = some (.int .u8 0))
    (hsize : i.size = 1) (hby : i.bytes = 1)
    (v : Value) (n : Nat) (xs : List Value) (hown : w.ownsRow base e 1 v n xs) (s : ByteArray)
    (h63 : n + s.size ≤ maxLen) (hbytes : n + s.size ≤ 140737488355328) (hbase : base ≤ w.heap.size) :
    ∃ v' w', (Builtin.append_ #[t, u] ty #[v, .string s]).run P w = .ok v' w' ∧ w'.ownsRow base e 1 v' (n + s.size) (xs ++ strCells s) ∧ w.grownBy w' v.ownBlock ∧
      (v'.ownBlock = v.ownBlock ∨ ∀ g, v'.ownBlock = some g → w.heap.size ≤ g) := by
  obtain ⟨v', w', hr, h2, h3, _⟩ := run_append_own_string (P := P) w base t u ty e i ht hu hi hz hsize hby v n xs hown s h63 hbytes hbase
  refine ⟨v', w', hr, h2, h3, ?_⟩
  rcases hown.2 with ⟨rfl, rfl⟩ | ⟨g, cap, cur, rfl, hbg, hg, hnc, hcm, hcs, _⟩
  · have hx : xs = [] := List.eq_nil_of_length_eq_zero (by simpa using hown.1)
    subst hx
    obtain ⟨v2, w2, hr2, k2, _, _⟩ := run_append_own_string (P := P) w w.heap.size t u ty e i ht hu hi hz hsize hby (.slice none 0 0) 0 [] (World.ownsRow_nil _ _ _ _) s h63 hbytes (Nat.le_refl _)
    rw [hr] at hr2
    injection hr2 with e1 e2
    subst e1 e2
    exact .inr (fun g hg => (k2.lt g hg).1)
  · by_cases hroom : n + s.size ≤ cap
    · have hr2 := run_append_room_string (P := P) w t u ty e i ht hu hi hsize g n cap cur hg s hroom (by omega)
      rw [hr] at hr2
      injection hr2 with e1 e2
      exact .inl (by rw [e1]; rfl)
    · have hmx : n + s.size ≤ 9223372036854775807 := by simp only [maxLen] at h63; omega
      have hr2 := run_append_grow_string (P := P) w t u ty e i (.int .u8 0) ht hu hi hz ⟨g, 0, none⟩ n cap xs (by rw [hsize]; exact hown.1) (hown.cells (g := g) rfl) s (by omega) (by omega) (by rw [hby]; exact growslice_fits (by omega) (by omega))
      rw [hr] at hr2
      injection hr2 with e1 e2
      exact .inr (fun g' hg' => by rw [e1] at hg'; simp [Value.ownBlock] at hg'; omega)

theorem wpList_append_string_at {ops : Array Oper} {rest : List Oper} {o : Oper} {a : Act} {Q : Exit → Act → World → Prop} (hgd : o.guard = none) (sl x : Operand) (t u : TypeId)
    (ho : o.op = .call { callee := .builtin .append, args := #[sl, x], argTypes := #[t, u] })
    (base : Nat) (e : TypeId) (i : TypeInfo) (ht : P.underlying t = some (.slice e)) (hu : P.underlying u = some .string) (hi : P.info? e = some i) (hz : i.zero = some (.int .u8 0))
    (hsize : i.size = 1) (hby : i.bytes = 1)
    (v : Value) (n : Nat) (xs : List Value) (hs : a.eval sl = v) (hown : w.ownsRow base e 1 v n xs) (s : ByteArray) (hx : a.eval x = .string s)
    (h63 : n + s.size ≤ maxLen) (hbytes : n + s.size ≤ 140737488355328) (hbase : base ≤ w.heap.size)
    (h : ∀ v' w', w'.ownsRow base e 1 v' (n + s.size) (xs ++ strCells s) → w.grownBy w' v.ownBlock → (v'.ownBlock = v.ownBlock ∨ ∀ g, v'.ownBlock = some g → w.heap.size ≤ g) → wpList P ops Q rest (a.put o.dst v') w') : wpList P ops Q (o :: rest) a w := by
  refine wpList_plain hgd fun K hK => ?_
  obtain ⟨v', w', hr, h2, h3, h4⟩ := run_append_string_at (P := P) w base t u o.type e i ht hu hi hz hsize hby v n xs hown s h63 hbytes hbase
  unfold Oper.wp execOp
  simp only [ho, resolve, invoke, builtin, Sem.run_bind, Sem.run_pure, Result.andThen_ok, List.map_toArray, List.map_cons, List.map_nil, hs, hx, hr]
  exact hK _ _ (h v' w' h2 h3 h4)

end
end Go.Proofs.YtgmgghbocidibaaGreatDoor
