/-
  Base 64, plain: what is told is read again.
-/
import Derived.Test.YtgklbmcnpnmkkaaDoorBase
namespace Go.Proofs.YtgklbmcnpnmkkaaDoor

/-- a digit of sixty-four -/
def sx (n : Nat) : UInt8 := UInt8.ofNat (if n < 26 then 65 + n else if n < 52 then 71 + n else if n < 62 then n - 4 else if n = 62 then 43 else 47)
/-- its number -/
def plc (b : UInt8) : Option Nat :=
  if 65 ≤ b ∧ b ≤ 90 then some (b.toNat - 65) else if 97 ≤ b ∧ b ≤ 122 then some (b.toNat - 71) else if 48 ≤ b ∧ b ≤ 57 then some (b.toNat + 4) else if b = 43 then some 62 else if b = 47 then some 63 else none
theorem plc_sx : ∀ n : Nat, n < 64 → plc (sx n) = some n := by
  have h : ∀ n : Fin 64, plc (sx n.val) = some n.val := by decide +kernel
  exact fun n hn => h ⟨n, hn⟩
theorem plc_eq61 : plc 61 = none := by decide
/-- four letters of three bytes -/
def fourL (w : Nat) : List UInt8 := [sx (w / 262144), sx (w / 4096 % 64), sx (w / 64 % 64), sx (w % 64)]
/-- a text in base 64 -/
def enc64 : List UInt8 → List UInt8
  | [] => []
  | [a] => (fourL (a.toNat * 65536)).take 2 ++ [61, 61]
  | [a, b] => (fourL (a.toNat * 65536 + b.toNat * 256)).take 3 ++ [61]
  | a :: b :: c :: l => fourL (a.toNat * 65536 + b.toNat * 256 + c.toNat) ++ enc64 l
/-- four letters read -/
def dec4 (last : Bool) (x y z t : UInt8) : Option (List UInt8) :=
  match plc x, plc y with
  | some p, some q => match plc z with
    | some r => match plc t with
      | some u => some [UInt8.ofNat ((p * 262144 + q * 4096 + r * 64 + u) / 65536), UInt8.ofNat ((p * 262144 + q * 4096 + r * 64 + u) / 256 % 256), UInt8.ofNat ((p * 262144 + q * 4096 + r * 64 + u) % 256)]
      | none => if last && t == 61 && r % 4 == 0 then some [UInt8.ofNat ((p * 262144 + q * 4096 + r * 64) / 65536), UInt8.ofNat ((p * 262144 + q * 4096 + r * 64) / 256 % 256)] else none
    | none => if last && z == 61 && t == 61 && q % 16 == 0 then some [UInt8.ofNat ((p * 262144 + q * 4096) / 65536)] else none
  | _, _ => none
/-- base 64, read -/
def dec64 : List UInt8 → Option (List UInt8)
  | [] => some []
  | x :: y :: z :: t :: l => match dec4 l.isEmpty x y z t, dec64 l with
    | some a, some b => some (a ++ b)
    | _, _ => none
  | _ => none

theorem ofNat_toNat' (a : UInt8) : UInt8.ofNat a.toNat = a := by simp
theorem dec4_w4 (last : Bool) (w : Nat) (hw : w < 16777216) : dec4 last (sx (w / 262144)) (sx (w / 4096 % 64)) (sx (w / 64 % 64)) (sx (w % 64)) = some [UInt8.ofNat (w / 65536), UInt8.ofNat (w / 256 % 256), UInt8.ofNat (w % 256)] := by
  unfold dec4
  rw [plc_sx (w / 262144) (by omega), plc_sx (w / 4096 % 64) (by omega), plc_sx (w / 64 % 64) (by omega), plc_sx (w % 64) (by omega)]
  have e : w / 262144 * 262144 + w / 4096 % 64 * 4096 + w / 64 % 64 * 64 + w % 64 = w := by omega
  simp only [e]
theorem dec4_w3 (w : Nat) (hw : w < 16777216) (h4 : w / 64 % 64 % 4 = 0) (h5 : w % 64 = 0) : dec4 true (sx (w / 262144)) (sx (w / 4096 % 64)) (sx (w / 64 % 64)) 61 = some [UInt8.ofNat (w / 65536), UInt8.ofNat (w / 256 % 256)] := by
  unfold dec4
  rw [plc_sx (w / 262144) (by omega), plc_sx (w / 4096 % 64) (by omega), plc_sx (w / 64 % 64) (by omega), plc_eq61]
  have e : w / 262144 * 262144 + w / 4096 % 64 * 4096 + w / 64 % 64 * 64 = w := by omega
  simp only [e, h4]
  rfl
theorem dec4_w2 (w : Nat) (hw : w < 16777216) (h4 : w / 4096 % 64 % 16 = 0) (h5 : w % 4096 = 0) : dec4 true (sx (w / 262144)) (sx (w / 4096 % 64)) 61 61 = some [UInt8.ofNat (w / 65536)] := by
  unfold dec4
  rw [plc_sx (w / 262144) (by omega), plc_sx (w / 4096 % 64) (by omega), plc_eq61]
  have e : w / 262144 * 262144 + w / 4096 % 64 * 4096 = w := by omega
  simp only [e, h4]
  rfl
/-- what is told is read again -/
theorem dec_enc : ∀ l : List UInt8, dec64 (enc64 l) = some l
  | [] => rfl
  | [a] => by
    simp only [enc64, fourL, List.take_succ_cons, List.take_zero, List.cons_append, List.nil_append, dec64, List.isEmpty_nil]
    have ha := a.toNat_lt
    rw [dec4_w2 (a.toNat * 65536) (by omega) (by omega) (by omega), show a.toNat * 65536 / 65536 = a.toNat by omega, ofNat_toNat']
    rfl
  | [a, b] => by
    simp only [enc64, fourL, List.take_succ_cons, List.take_zero, List.cons_append, List.nil_append, dec64, List.isEmpty_nil]
    have ha := a.toNat_lt; have hb := b.toNat_lt
    rw [dec4_w3 (a.toNat * 65536 + b.toNat * 256) (by omega) (by omega) (by omega), show (a.toNat * 65536 + b.toNat * 256) / 65536 = a.toNat by omega, show (a.toNat * 65536 + b.toNat * 256) / 256 % 256 = b.toNat by omega, ofNat_toNat', ofNat_toNat']
    rfl
  | a :: b :: c :: l => by
    simp only [enc64, fourL, List.cons_append, List.nil_append, dec64]
    have ha := a.toNat_lt; have hb := b.toNat_lt; have hc := c.toNat_lt
    rw [dec4_w4 _ (a.toNat * 65536 + b.toNat * 256 + c.toNat) (by omega), show (a.toNat * 65536 + b.toNat * 256 + c.toNat) / 65536 = a.toNat by omega, show (a.toNat * 65536 + b.toNat * 256 + c.toNat) / 256 % 256 = b.toNat by omega, show (a.toNat * 65536 + b.toNat * 256 + c.toNat) % 256 = c.toNat by omega, ofNat_toNat', ofNat_toNat', ofNat_toNat', dec_enc l]
    rfl
end Go.Proofs.YtgklbmcnpnmkkaaDoor
