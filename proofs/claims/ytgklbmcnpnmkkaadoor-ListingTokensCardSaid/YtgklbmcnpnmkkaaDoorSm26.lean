/-
  SEVERAL SMALL TEXTS IN ONE.
-/
import Derived.Test.YtgklbmcnpnmkkaaDoorLsB64
import Derived.Test.YtgklbmcnpnmkkaaDoorBase
/-
  storehouseref01.place, over the sixty-four: a digit's number, or -1.
-/
namespace Go.Proofs.YtgklbmcnpnmkkaaDoor
open Go.RowKit Go.Lib

/-- a digit's number as the code tells it -/
def plcI (b : UInt8) : Int := match plc b with | some d => (d : Int) | none => -1
theorem sx_plc (b : UInt8) (d : Nat) (h : plc b = some d) : d < 64 ∧ sx d = b := by
  have h2 : ∀ n : Fin 256, (match plc (UInt8.ofNat n.val) with | some d => decide (d < 64) && (sx d == UInt8.ofNat n.val) | none => true) = true := by decide +kernel
  have := h2 ⟨b.toNat, b.toNat_lt⟩
  rw [UInt8.ofNat_toNat, h] at this
  simpa using this
theorem val_succ2 {k : Nat} {x : Int} (h : x = (k : Int) + 1) : Value.int .i64 x = Value.int .i64 ((k + 1 : Nat) : Int) := by rw [h]; rfl
theorem plcI_hit {b : UInt8} {i : Nat} (hi : i < 64) (h : sx i = b) : plcI b = (i : Int) := by
  unfold plcI
  rw [← h, plc_sx i hi]
theorem plcI_none {b : UInt8} (h : ∀ j, j < 64 → sx j ≠ b) : plcI b = -1 := by
  unfold plcI
  cases hp : plc b with
  | none => rfl
  | some d => exact absurd (sx_plc b d hp).2 (h d (sx_plc b d hp).1)

set_option maxHeartbeats 4000000 in
set_option maxRecDepth 100000 in
theorem place_any (b : UInt8) (w : World) : Calls Tryd.prog 51 #[.string sixS, .int .u8 (b.toNat : Int)] w fun e w' => e = .returned (.int .i64 (plcI b)) ∧ w' = w := by
  have hsz : sixS.size = 64 := rfl
  have HGE : Hid (∀ i, (h : i < 64) → sixS[i]'(by rw [hsz]; exact h) = sx i) := by
    have h : ∀ k : Fin 64, sixS[k.val]'(k.isLt) = sx k.val := by decide +kernel
    exact fun i hi => h ⟨i, hi⟩
  generalize sixS = S6 at *
  go_enter Tryd.func51, Tryd.ntmps51
  go_wp2_with fail
  go_loopg [5] 64 (fun gg s5 wr => ∃ i : Nat, i ≤ 64 ∧ 64 - i ≤ gg ∧ s5 = .int .i64 i ∧ Hid (∀ j, j < i → sx j ≠ b) ∧ wr = w)
  case atStart => exact ⟨0, by omega, by omega, rfl, fun j hj => by omega, rfl⟩
  case round =>
    obtain ⟨i, hi, hg, rfl, HI, rfl⟩ := hrel
    by_cases hlt : i < 64
    · have hiz : (i : Int) < 64 := by omega
      have hge := HGE.out i hlt
      by_cases he : sx i = b
      · have HV := Lib.hid (plcI_hit hlt he)
        have hx : (((S6[i]'(by rw [hsz]; exact hlt)).toNat : Int) == (b.toNat : Int)) = true := by rw [hge, he]; simp
        clear he hge
        go_wp2_with fail
        go_ret
        exact ⟨by rw [HV.out]; rfl, rfl⟩
      · have hx : (((S6[i]'(by rw [hsz]; exact hlt)).toNat : Int) == (b.toNat : Int)) = false := by
          rw [hge, beq_eq_false_iff_ne]
          intro e
          exact he (UInt8.toNat_inj.1 (by omega))
        have HN : Hid (∀ j, j < i + 1 → sx j ≠ b) := fun j hj => by
          by_cases h : j = i
          · subst h; exact he
          · exact HI.out j (by omega)
        have hw1 : wrap64 ((i : Int) + 1) = (i : Int) + 1 := by unfold wrap64; omega
        clear he hge
        go_wp2_with fail
        go_roundg (64 - (i + 1))
        case measure => clear hw1; omega
        case rel => exact ⟨i + 1, hlt, Nat.le_refl _, by with_reducible first | exact val_succ2 rfl | exact val_succ2 hw1, HN.out, rfl⟩
    · obtain rfl : i = 64 := by omega
      have HV := Lib.hid (plcI_none HI.out)
      go_wp2_with fail
      go_ret
      exact ⟨by rw [HV.out]; rfl, rfl⟩
end Go.Proofs.YtgklbmcnpnmkkaaDoor

/-
  Numbers as values: facts on wrap64 that 'omega' doesn't see (with one such fact as an equation of numbers in sight each step of a walk costs a minute).
-/
namespace Go.Proofs.YtgklbmcnpnmkkaaDoor
open Go.RowKit

theorem wrap_nn {n : Int} (h0 : 0 ≤ n) (h : n ≤ 4611686018427387904) : wrap64 n = n := by unfold wrap64; omega
theorem vwrap {n : Int} (h0 : 0 ≤ n) (h : n ≤ 4611686018427387904) : Value.int .i64 (wrap64 n) = Value.int .i64 n := by rw [wrap_nn h0 h]
theorem veq {a b : Int} (h : a = b) : Value.int .i64 a = Value.int .i64 b := by rw [h]
theorem vsucc {k : Nat} (h : (k : Int) ≤ 4611686018427387900) : Value.int .i64 (wrap64 ((k : Int) + 1)) = Value.int .i64 ((k : Int) + 1) := vwrap (by omega) (by omega)
theorem vnext {k : Nat} : Value.int .i64 ((k : Int) + 1) = Value.int .i64 ((k + 1 : Nat) : Int) := rfl
end Go.Proofs.YtgklbmcnpnmkkaaDoor

/-
  storehouseref01.Base64, plain: three bytes' four letters; numbers.
-/
namespace Go.Proofs.YtgklbmcnpnmkkaaDoor
open Go.RowKit Go.Lib

def nOf (s : List UInt8) (j : Nat) : Nat := ((s[j]?).getD 0).toNat * 65536 + ((s[j + 1]?).getD 0).toNat * 256 + ((s[j + 2]?).getD 0).toNat
theorem nOf_lt (s : List UInt8) (j : Nat) : nOf s j < 16777216 := by
  unfold nOf
  have h1 := ((s[j]?).getD 0).toNat_lt
  have h2 := ((s[j + 1]?).getD 0).toNat_lt
  have h3 := ((s[j + 2]?).getD 0).toNat_lt
  omega
/-- the four letters -/
def padsOf (s : List UInt8) (j : Nat) : List UInt8 := [sx (nOf s j / 262144), sx (nOf s j / 4096 % 64), if j + 1 < s.length then sx (nOf s j / 64 % 64) else 61, if j + 2 < s.length then sx (nOf s j % 64) else 61]
theorem pads_drop {s : List UInt8} {j : Nat} (h : j < s.length) : enc64 (s.drop j) = padsOf s j ++ enc64 (s.drop (j + 3)) := by
  obtain ⟨l, hl⟩ : ∃ l, s.drop j = l := ⟨_, rfl⟩
  have hlen : s.length = j + l.length := by have := congrArg List.length hl; rw [List.length_drop] at this; omega
  have h0 : s[j]? = l[0]? := by rw [← hl, List.getElem?_drop]; rfl
  have h1 : s[j + 1]? = l[1]? := by rw [← hl, List.getElem?_drop]
  have h2 : s[j + 2]? = l[2]? := by rw [← hl, List.getElem?_drop]
  have h3 : s.drop (j + 3) = l.drop 3 := by rw [← hl, List.drop_drop]
  unfold padsOf nOf
  rw [hl, h3, h0, h1, h2, hlen]
  match l with
  | [] => simp at hlen; omega
  | [a] => simp [enc64, fourL]
  | [a, b] => simp [enc64, fourL]
  | a :: b :: c :: l => simp [enc64, fourL]
theorem n64_1 (x : UInt8) : wrap64 (256 * wrap64 (256 * (x.toNat : Int))) = ((x.toNat * 65536 + (0 : UInt8).toNat * 256 + (0 : UInt8).toNat : Nat) : Int) := by
  have := x.toNat_lt
  have e : (0 : UInt8).toNat = 0 := rfl
  rw [wrap_nn (n := 256 * (x.toNat : Int)) (by omega) (by omega), wrap_nn (by omega) (by omega), e]
  omega
theorem n64_2 (x y : UInt8) : wrap64 (256 * wrap64 (wrap64 (256 * (x.toNat : Int)) + (y.toNat : Int))) = ((x.toNat * 65536 + y.toNat * 256 + (0 : UInt8).toNat : Nat) : Int) := by
  have := x.toNat_lt; have := y.toNat_lt
  have e : (0 : UInt8).toNat = 0 := rfl
  rw [wrap_nn (n := 256 * (x.toNat : Int)) (by omega) (by omega), wrap_nn (n := 256 * (x.toNat : Int) + (y.toNat : Int)) (by omega) (by omega), wrap_nn (by omega) (by omega), e]
  omega
theorem n64_3 (x y z : UInt8) : wrap64 (wrap64 (256 * wrap64 (wrap64 (256 * (x.toNat : Int)) + (y.toNat : Int))) + (z.toNat : Int)) = ((x.toNat * 65536 + y.toNat * 256 + z.toNat : Nat) : Int) := by
  have := x.toNat_lt; have := y.toNat_lt; have := z.toNat_lt
  rw [wrap_nn (n := 256 * (x.toNat : Int)) (by omega) (by omega), wrap_nn (n := 256 * (x.toNat : Int) + (y.toNat : Int)) (by omega) (by omega), wrap_nn (n := 256 * (256 * (x.toNat : Int) + (y.toNat : Int))) (by omega) (by omega), wrap_nn (by omega) (by omega)]
  omega
theorem byte64 (x : UInt8) : wrap64 (x.toNat : Int) = (x.toNat : Int) := wrap_nn (by omega) (by have := x.toNat_lt; omega)
theorem tmod64 (n : Nat) : (n : Int).tmod 64 = ((n % 64 : Nat) : Int) := by rw [Int.tmod_eq_emod_of_nonneg (by omega)]; rfl
theorem str_get {s : List UInt8} {i : Nat} {x : UInt8} (h : s[i]? = some x) : ∃ hi : i < (⟨s.toArray⟩ : ByteArray).size, (⟨s.toArray⟩ : ByteArray)[i]'hi = x := by
  obtain ⟨h1, h2⟩ := List.getElem?_eq_some_iff.1 h
  exact ⟨by simpa [ByteArray.size] using h1, by simp [ByteArray.getElem_eq_getElem_data, h2]⟩
end Go.Proofs.YtgklbmcnpnmkkaaDoor
