/-
  SEVERAL SMALL TEXTS IN ONE.
-/
import Derived.Test.YtgklbmcnpnmkkaaDoorLsSortP
import Derived.Test.YtgklbmcnpnmkkaaDoorLsRow
import Derived.Test.YtgklbmcnpnmkkaaDoorBase
/-
  LISTING, plain: the statements' own sorting (sorted) gives rows in order.
-/
namespace Go.Proofs.YtgklbmcnpnmkkaaDoor
open Go.Op (bytesLess)

def rowLtB (a b : RowD) : Bool := bytesLess a.key b.key || (a.key == b.key && decide (b.ver.seq < a.ver.seq))
theorem rowLtB_iff (a b : RowD) : rowLtB a b = true ↔ RowLt a b := by
  unfold rowLtB RowLt
  simp
/-- where a row is put -/
def posOf (x : RowD) : List RowD → Nat
  | [] => 0
  | y :: l => if rowLtB y x then posOf x l + 1 else 0
theorem posOf_le (x : RowD) : ∀ l : List RowD, posOf x l ≤ l.length
  | [] => Nat.le_refl _
  | y :: l => by
    unfold posOf
    split
    · have := posOf_le x l; simp only [List.length_cons]; omega
    · omega
theorem posOf_take (x : RowD) : ∀ l : List RowD, ∀ y ∈ l.take (posOf x l), rowLtB y x = true
  | [], y, h => by simp [posOf] at h
  | z :: l, y, h => by
    unfold posOf at h
    split at h
    · rename_i hz
      rw [List.take_succ_cons] at h
      rcases List.mem_cons.1 h with rfl | h
      · exact hz
      · exact posOf_take x l y h
    · simp at h
theorem posOf_at (x : RowD) : ∀ (l : List RowD) (y : RowD), l[posOf x l]? = some y → rowLtB y x = false
  | [], y, h => by simp at h
  | z :: l, y, h => by
    unfold posOf at h
    split at h
    · rw [List.getElem?_cons_succ] at h
      exact posOf_at x l y h
    · rename_i hz
      simp only [List.getElem?_cons_zero, Option.some.injEq] at h
      subst h
      simpa using hz
/-- one row more -/
def fitRow (r : RowD) : RowD := { r with common := false, key := 107 :: r.key }
def clash (x : RowD) : Option RowD → Bool
  | some y => y.key == x.key && y.ver.seq == x.ver.seq
  | none => false
def insRow (out : List RowD) (r : RowD) : List RowD :=
  let x := fitRow r
  let k := posOf x out
  if clash x out[k]? || decide (x.ver.seq < 1) then out else out.take k ++ x :: out.drop k
def sortedL (l : List RowD) : List RowD := (l.take 200).foldl insRow []
theorem RowLt.trans {a b c : RowD} (h : RowLt a b) (k : RowLt b c) : RowLt a c := by
  rcases h with h | ⟨h1, h2⟩
  · rcases k with k | ⟨k1, _⟩
    · exact .inl (less_trans h k)
    · exact .inl (by rw [← k1]; exact h)
  · rcases k with k | ⟨k1, k2⟩
    · exact .inl (by rw [h1]; exact k)
    · exact .inr ⟨h1.trans k1, by omega⟩
theorem rowLt_tri {a b : RowD} (h : rowLtB a b = false) (hn : ¬ (a.key = b.key ∧ a.ver.seq = b.ver.seq)) : RowLt b a := by
  have h' : ¬ RowLt a b := fun k => by rw [(rowLtB_iff a b).2 k] at h; cases h
  rcases less_tri a.key b.key with k | k | k
  · exact absurd (.inl k) h'
  · by_cases hs : a.ver.seq = b.ver.seq
    · exact absurd ⟨k, hs⟩ hn
    · by_cases hlt : b.ver.seq < a.ver.seq
      · exact absurd (.inr ⟨k, hlt⟩) h'
      · exact .inr ⟨k.symm, by omega⟩
  · exact .inl k
theorem insRow_ok {out : List RowD} {r : RowD} (hs : out.Pairwise RowLt) (ho : ∀ y ∈ out, RowOK y) : (insRow out r).Pairwise RowLt ∧ (∀ y ∈ insRow out r, RowOK y) ∧ (insRow out r).length ≤ out.length + 1 := by
  unfold insRow
  simp only
  split
  · exact ⟨hs, ho, by omega⟩
  rename_i hc
  simp only [Bool.or_eq_true, decide_eq_true_eq, not_or] at hc
  obtain ⟨hc1, hc2⟩ := hc
  have hx : RowOK (fitRow r) := ⟨rfl, by omega, fun h => by cases h⟩
  have hlt : ∀ y ∈ out.take (posOf (fitRow r) out), RowLt y (fitRow r) := fun y hy => (rowLtB_iff _ _).1 (posOf_take _ _ y hy)
  have hgt : ∀ y ∈ out.drop (posOf (fitRow r) out), RowLt (fitRow r) y := by
    intro y hy
    cases hd : out.drop (posOf (fitRow r) out) with
    | nil => rw [hd] at hy; cases hy
    | cons z l =>
      have hz : out[posOf (fitRow r) out]? = some z := by
        have := congrArg (fun l : List RowD => l[0]?) hd
        simpa [List.getElem?_drop] using this
      have h0 : RowLt (fitRow r) z := by
        refine rowLt_tri (posOf_at _ _ z hz) fun hn => hc1 ?_
        rw [hz]
        simp [clash, hn.1, hn.2]
      rw [hd] at hy
      rcases List.mem_cons.1 hy with rfl | hy
      · exact h0
      · have hp : (out.drop (posOf (fitRow r) out)).Pairwise RowLt := hs.sublist (List.drop_sublist _ _)
        rw [hd, List.pairwise_cons] at hp
        exact h0.trans (hp.1 y hy)
  refine ⟨?_, ?_, ?_⟩
  · rw [List.pairwise_append, List.pairwise_cons]
    refine ⟨hs.sublist (List.take_sublist _ _), ⟨hgt, hs.sublist (List.drop_sublist _ _)⟩, fun a ha b hb => ?_⟩
    rcases List.mem_cons.1 hb with rfl | hb
    · exact hlt a ha
    · exact (hlt a ha).trans (hgt b hb)
  · intro y hy
    rcases List.mem_append.1 hy with hy | hy
    · exact ho y (List.mem_of_mem_take hy)
    · rcases List.mem_cons.1 hy with rfl | hy
      · exact hx
      · exact ho y (List.mem_of_mem_drop hy)
  · simp only [List.length_append, List.length_cons, List.length_take, List.length_drop]
    have := posOf_le (fitRow r) out
    omega
theorem foldl_ok : ∀ (l out : List RowD), out.Pairwise RowLt → (∀ y ∈ out, RowOK y) → (l.foldl insRow out).Pairwise RowLt ∧ (∀ y ∈ l.foldl insRow out, RowOK y) ∧ (l.foldl insRow out).length ≤ out.length + l.length
  | [], out, h1, h2 => ⟨h1, h2, by simp⟩
  | r :: l, out, h1, h2 => by
    obtain ⟨k1, k2, k3⟩ := insRow_ok (r := r) h1 h2
    obtain ⟨i1, i2, i3⟩ := foldl_ok l (insRow out r) k1 k2
    refine ⟨i1, i2, ?_⟩
    simp only [List.foldl_cons, List.length_cons]
    omega
theorem sortedL_ok (l : List RowD) : (sortedL l).Pairwise RowLt ∧ (∀ y ∈ sortedL l, RowOK y) ∧ (sortedL l).length ≤ 200 := by
  obtain ⟨h1, h2, h3⟩ := foldl_ok (l.take 200) [] List.Pairwise.nil (fun y h => by cases h)
  refine ⟨h1, h2, ?_⟩
  unfold sortedL
  rw [List.length_take] at h3
  simp only [List.length_nil] at h3
  omega
end Go.Proofs.YtgklbmcnpnmkkaaDoor

/-
  The statements' own sorting, of rows as they lie.
-/
namespace Go.Proofs.YtgklbmcnpnmkkaaDoor
open Go.RowKit

def fitV (p : RowV) : RowV := { p with d := fitRow p.d }
def insV (out : List RowV) (p : RowV) : List RowV :=
  if clash (fitRow p.d) (out.map RowV.d)[posOf (fitRow p.d) (out.map RowV.d)]? || decide (p.d.ver.seq < 1) then out
  else out.take (posOf (fitRow p.d) (out.map RowV.d)) ++ fitV p :: out.drop (posOf (fitRow p.d) (out.map RowV.d))
theorem insV_d (out : List RowV) (p : RowV) : (insV out p).map RowV.d = insRow (out.map RowV.d) p.d := by
  unfold insV insRow
  simp only
  rw [show (fitRow p.d).ver.seq = p.d.ver.seq from rfl]
  split
  · rfl
  · rw [List.map_append, List.map_cons, List.map_take, List.map_drop]
    rfl
theorem foldV_d : ∀ (l out : List RowV), (l.foldl insV out).map RowV.d = (l.map RowV.d).foldl insRow (out.map RowV.d)
  | [], out => rfl
  | p :: l, out => by rw [List.foldl_cons, foldV_d l, insV_d, List.map_cons, List.foldl_cons]
def sortedV (l : List RowV) : List RowV := (l.take 200).foldl insV []
theorem sortedV_d (l : List RowV) : (sortedV l).map RowV.d = sortedL (l.map RowV.d) := by
  unfold sortedV sortedL
  rw [foldV_d, List.map_take]
  rfl
theorem insV_mem {out : List RowV} {p q : RowV} (h : q ∈ insV out p) : q ∈ out ∨ q = fitV p := by
  unfold insV at h
  split at h
  · exact .inl h
  · rcases List.mem_append.1 h with h | h
    · exact .inl (List.mem_of_mem_take h)
    · rcases List.mem_cons.1 h with h | h
      · exact .inr h
      · exact .inl (List.mem_of_mem_drop h)
theorem insV_len (out : List RowV) (p : RowV) : (insV out p).length ≤ out.length + 1 := by
  unfold insV
  split
  · omega
  · simp only [List.length_append, List.length_cons, List.length_take, List.length_drop]
    omega
/-- a round of the search: where the row behind is the less one -/
theorem posOf_step {x : RowD} : ∀ {l : List RowD} {k : Nat}, k ≤ posOf x l → ∀ {y}, l[k]? = some y → rowLtB y x = true → k + 1 ≤ posOf x l
  | [], _, _, _, hy, _ => by simp at hy
  | z :: l, 0, _, y, hy, hr => by
    simp only [List.getElem?_cons_zero, Option.some.injEq] at hy
    subst hy
    unfold posOf
    rw [if_pos hr]
    omega
  | z :: l, k + 1, h, y, hy, hr => by
    unfold posOf at h ⊢
    split at h
    · rename_i hz
      rw [if_pos hz]
      have := posOf_step (x := x) (l := l) (k := k) (by omega) (by simpa using hy) hr
      omega
    · omega
theorem posOf_stop {x : RowD} : ∀ {l : List RowD} {k : Nat}, k ≤ posOf x l → (∀ y, l[k]? = some y → rowLtB y x = false) → posOf x l = k
  | [], k, h, _ => by
    have : posOf x ([] : List RowD) = 0 := rfl
    omega
  | z :: l, 0, _, hs => by
    unfold posOf
    rw [if_neg (by rw [hs z rfl]; decide)]
  | z :: l, k + 1, h, hs => by
    unfold posOf at h ⊢
    split at h
    · rename_i hz
      rw [if_pos hz]
      have := posOf_stop (x := x) (l := l) (k := k) (by omega) (fun y hy => hs y (by simpa using hy))
      omega
    · omega

end Go.Proofs.YtgklbmcnpnmkkaaDoor

/-
  Base 64, plain: what is told is read again.
-/
namespace Go.Proofs.YtgklbmcnpnmkkaaDoor

/-- a digit of sixty-four -/
def sx (n : Nat) : UInt8 := UInt8.ofNat (if n < 26 then 65 + n else if n < 52 then 71 + n else if n < 62 then n - 4 else if n = 62 then 43 else 47)
/-- its number -/
def plc (b : UInt8) : Option Nat :=
  if 65 ≤ b ∧ b ≤ 90 then some (b.toNat - 65) else if 97 ≤ b ∧ b ≤ 122 then some (b.toNat - 71) else if 48 ≤ b ∧ b ≤ 57 then some (b.toNat + 4) else if b = 43 then some 62 else if b = 47 then some 63 else none
theorem plc_sx : ∀ n : Nat, n < 64 → plc (sx n) = some n := by
  have h : ∀ n : Fin 64, plc (sx n.val) = some n.val := by decide +kernel
  exact fun n hn => h ⟨n, hn⟩
theorem plc_eq61 : plc 61 = none := by decide
/-- four letters of three bytes -/
def fourL (w : Nat) : List UInt8 := [sx (w / 262144), sx (w / 4096 % 64), sx (w / 64 % 64), sx (w % 64)]
/-- a text in base 64 -/
def enc64 : List UInt8 → List UInt8
  | [] => []
  | [a] => (fourL (a.toNat * 65536)).take 2 ++ [61, 61]
  | [a, b] => (fourL (a.toNat * 65536 + b.toNat * 256)).take 3 ++ [61]
  | a :: b :: c :: l => fourL (a.toNat * 65536 + b.toNat * 256 + c.toNat) ++ enc64 l
/-- four letters read -/
def dec4 (last : Bool) (x y z t : UInt8) : Option (List UInt8) :=
  match plc x, plc y with
  | some p, some q => match plc z with
    | some r => match plc t with
      | some u => some [UInt8.ofNat ((p * 262144 + q * 4096 + r * 64 + u) / 65536), UInt8.ofNat ((p * 262144 + q * 4096 + r * 64 + u) / 256 % 256), UInt8.ofNat ((p * 262144 + q * 4096 + r * 64 + u) % 256)]
      | none => if last && t == 61 && r % 4 == 0 then some [UInt8.ofNat ((p * 262144 + q * 4096 + r * 64) / 65536), UInt8.ofNat ((p * 262144 + q * 4096 + r * 64) / 256 % 256)] else none
    | none => if last && z == 61 && t == 61 && q % 16 == 0 then some [UInt8.ofNat ((p * 262144 + q * 4096) / 65536)] else none
  | _, _ => none
/-- base 64, read -/
def dec64 : List UInt8 → Option (List UInt8)
  | [] => some []
  | x :: y :: z :: t :: l => match dec4 l.isEmpty x y z t, dec64 l with
    | some a, some b => some (a ++ b)
    | _, _ => none
  | _ => none

theorem ofNat_toNat' (a : UInt8) : UInt8.ofNat a.toNat = a := by simp
theorem dec4_w4 (last : Bool) (w : Nat) (hw : w < 16777216) : dec4 last (sx (w / 262144)) (sx (w / 4096 % 64)) (sx (w / 64 % 64)) (sx (w % 64)) = some [UInt8.ofNat (w / 65536), UInt8.ofNat (w / 256 % 256), UInt8.ofNat (w % 256)] := by
  unfold dec4
  rw [plc_sx (w / 262144) (by omega), plc_sx (w / 4096 % 64) (by omega), plc_sx (w / 64 % 64) (by omega), plc_sx (w % 64) (by omega)]
  have e : w / 262144 * 262144 + w / 4096 % 64 * 4096 + w / 64 % 64 * 64 + w % 64 = w := by omega
  simp only [e]
theorem dec4_w3 (w : Nat) (hw : w < 16777216) (h4 : w / 64 % 64 % 4 = 0) (h5 : w % 64 = 0) : dec4 true (sx (w / 262144)) (sx (w / 4096 % 64)) (sx (w / 64 % 64)) 61 = some [UInt8.ofNat (w / 65536), UInt8.ofNat (w / 256 % 256)] := by
  unfold dec4
  rw [plc_sx (w / 262144) (by omega), plc_sx (w / 4096 % 64) (by omega), plc_sx (w / 64 % 64) (by omega), plc_eq61]
  have e : w / 262144 * 262144 + w / 4096 % 64 * 4096 + w / 64 % 64 * 64 = w := by omega
  simp only [e, h4]
  rfl
theorem dec4_w2 (w : Nat) (hw : w < 16777216) (h4 : w / 4096 % 64 % 16 = 0) (h5 : w % 4096 = 0) : dec4 true (sx (w / 262144)) (sx (w / 4096 % 64)) 61 61 = some [UInt8.ofNat (w / 65536)] := by
  unfold dec4
  rw [plc_sx (w / 262144) (by omega), plc_sx (w / 4096 % 64) (by omega), plc_eq61]
  have e : w / 262144 * 262144 + w / 4096 % 64 * 4096 = w := by omega
  simp only [e, h4]
  rfl
/-- what is told is read again -/
theorem dec_enc : ∀ l : List UInt8, dec64 (enc64 l) = some l
  | [] => rfl
  | [a] => by
    simp only [enc64, fourL, List.take_succ_cons, List.take_zero, List.cons_append, List.nil_append, dec64, List.isEmpty_nil]
    have ha := a.toNat_lt
    rw [dec4_w2 (a.toNat * 65536) (by omega) (by omega) (by omega), show a.toNat * 65536 / 65536 = a.toNat by omega, ofNat_toNat']
    rfl
  | [a, b] => by
    simp only [enc64, fourL, List.take_succ_cons, List.take_zero, List.cons_append, List.nil_append, dec64, List.isEmpty_nil]
    have ha := a.toNat_lt; have hb := b.toNat_lt
    rw [dec4_w3 (a.toNat * 65536 + b.toNat * 256) (by omega) (by omega) (by omega), show (a.toNat * 65536 + b.toNat * 256) / 65536 = a.toNat by omega, show (a.toNat * 65536 + b.toNat * 256) / 256 % 256 = b.toNat by omega, ofNat_toNat', ofNat_toNat']
    rfl
  | a :: b :: c :: l => by
    simp only [enc64, fourL, List.cons_append, List.nil_append, dec64]
    have ha := a.toNat_lt; have hb := b.toNat_lt; have hc := c.toNat_lt
    rw [dec4_w4 _ (a.toNat * 65536 + b.toNat * 256 + c.toNat) (by omega), show (a.toNat * 65536 + b.toNat * 256 + c.toNat) / 65536 = a.toNat by omega, show (a.toNat * 65536 + b.toNat * 256 + c.toNat) / 256 % 256 = b.toNat by omega, show (a.toNat * 65536 + b.toNat * 256 + c.toNat) % 256 = c.toNat by omega, ofNat_toNat', ofNat_toNat', ofNat_toNat', dec_enc l]
    rfl
end Go.Proofs.YtgklbmcnpnmkkaaDoor
