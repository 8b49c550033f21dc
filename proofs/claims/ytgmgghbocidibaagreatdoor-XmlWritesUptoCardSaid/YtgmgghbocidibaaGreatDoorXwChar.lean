/-
  The document's characters are the program's: how many bytes the first one has, and which are none.
-/
import Derived.Test.YtgmgghbocidibaaGreatDoorSm1
import Derived.Test.YtgmgghbocidibaaGreatDoorXmLaw4
namespace Go.Proofs.YtgmgghbocidibaaGreatDoor
open Go.RowKit Go.Lib Go.PlainAid

theorem bt_get (s : ByteArray) (i : Nat) : bt s i = ((s.data.toList.getD i 0).toNat : Int) := by
  unfold bt
  split
  · rename_i h
    rw [List.getD_eq_getElem?_getD, List.getElem?_eq_getElem (by rw [Array.length_toList]; exact h)]
    rfl
  · rename_i h
    rw [List.getD_eq_getElem?_getD, List.getElem?_eq_none (by rw [Array.length_toList]; exact Nat.le_of_not_lt h)]
    rfl
/-- the bytes of the first character, by four bytes -/
def utfD (n a b c d : Nat) : Nat :=
  if a < 128 then 1
  else if 194 ≤ a ∧ a < 224 then (if n < 2 ∨ b < 128 ∨ 191 < b then 0 else 2)
  else if 224 ≤ a ∧ a < 240 then (if n < 3 ∨ b < 128 ∨ 191 < b ∨ c < 128 ∨ 191 < c ∨ (a - 224) * 4096 + (b - 128) * 64 + (c - 128) < 2048 ∨ (55296 ≤ (a - 224) * 4096 + (b - 128) * 64 + (c - 128) ∧ (a - 224) * 4096 + (b - 128) * 64 + (c - 128) ≤ 57343) then 0 else 3)
  else if 240 ≤ a ∧ a < 245 then (if n < 4 ∨ b < 128 ∨ 191 < b ∨ c < 128 ∨ 191 < c ∨ d < 128 ∨ 191 < d ∨ (a - 240) * 262144 + (b - 128) * 4096 + (c - 128) * 64 + (d - 128) < 65536 ∨ 1114111 < (a - 240) * 262144 + (b - 128) * 4096 + (c - 128) * 64 + (d - 128) then 0 else 4)
  else 0
theorem utfD_two {n a b c d : Nat} (h1 : 194 ≤ a) (h2 : a < 224) : utfD n a b c d = if n < 2 ∨ b < 128 ∨ 191 < b then 0 else 2 := by
  unfold utfD; rw [if_neg (by omega), if_pos ⟨h1, h2⟩]
theorem utfN_D (s : ByteArray) (i : Nat) (hi : i < s.size) : utfN s i = utfD (s.size - i) (s.data.toList.getD i 0).toNat (s.data.toList.getD (i + 1) 0).toNat (s.data.toList.getD (i + 2) 0).toNat (s.data.toList.getD (i + 3) 0).toNat := by
  unfold utfN utfTail
  simp only [conts]
  rw [if_neg (by omega), bt_get, bt_get, bt_get, bt_get]
  generalize (s.data.toList.getD i 0).toNat = a
  generalize (s.data.toList.getD (i + 1) 0).toNat = b
  generalize (s.data.toList.getD (i + 1 + 1) 0).toNat = c
  generalize (s.data.toList.getD (i + 1 + 1 + 1) 0).toNat = d
  unfold utfD
  by_cases h1 : a < 128
  · rw [if_pos (by omega), if_pos h1]; rfl
  rw [if_neg (by omega), if_neg h1]
  by_cases h2 : 194 ≤ a ∧ a < 224
  · rw [if_pos (by omega), if_pos h2]
    by_cases hn : s.size - i < 2
    · rw [if_pos hn, if_pos (.inl hn)]; rfl
    rw [if_neg hn]
    by_cases hb : 128 ≤ b ∧ b ≤ 191
    · rw [if_pos (by omega), if_neg (by omega)]
      simp only
      rw [if_neg (by omega)]
    · rw [if_neg (by omega), if_pos (by omega)]; rfl
  rw [if_neg (by omega), if_neg h2]
  by_cases h3 : 224 ≤ a ∧ a < 240
  · rw [if_pos (by omega), if_pos h3]
    by_cases hn : s.size - i < 3
    · rw [if_pos hn, if_pos (.inl hn)]; rfl
    rw [if_neg hn]
    by_cases hb : 128 ≤ b ∧ b ≤ 191
    · rw [if_pos (by omega)]
      by_cases hc : 128 ≤ c ∧ c ≤ 191
      · rw [if_pos (by omega)]
        simp only
        split
        · rw [if_pos (by omega)]; rfl
        · rw [if_neg (by omega)]
      · rw [if_neg (by omega), if_pos (by omega)]; rfl
    · rw [if_neg (by omega), if_pos (by omega)]; rfl
  rw [if_neg (by omega), if_neg h3]
  by_cases h4 : 240 ≤ a ∧ a < 245
  · rw [if_pos (by omega), if_pos h4]
    by_cases hn : s.size - i < 4
    · rw [if_pos hn, if_pos (.inl hn)]; rfl
    rw [if_neg hn]
    by_cases hb : 128 ≤ b ∧ b ≤ 191
    · rw [if_pos (by omega)]
      by_cases hc : 128 ≤ c ∧ c ≤ 191
      · rw [if_pos (by omega)]
        by_cases hd : 128 ≤ d ∧ d ≤ 191
        · rw [if_pos (by omega)]
          simp only
          split
          · rw [if_pos (by omega)]; rfl
          · rw [if_neg (by omega)]
        · rw [if_neg (by omega), if_pos (by omega)]; rfl
      · rw [if_neg (by omega), if_pos (by omega)]; rfl
    · rw [if_neg (by omega), if_pos (by omega)]; rfl
  rw [if_neg (by omega), if_neg h4]; rfl
/-- it is what decodes, and 0 where nothing does -/
theorem utfD_decode (n a b c d : Nat) (hn : 0 < n) (ha : a < 256) (hb : b < 256) (hc : c < 256) (hd : d < 256) : (utfD n a b c d = 0 ∧ decodeN n a b c d = (65533, 1)) ∨ (0 < utfD n a b c d ∧ (decodeN n a b c d).2 = utfD n a b c d ∧ ¬ (decodeN n a b c d = (65533, 1))) := by
  unfold utfD decodeN
  repeat' split
  all_goals first
    | (refine .inl ⟨rfl, rfl⟩)
    | (refine .inr ⟨by decide, rfl, fun h => ?_⟩; injection h with h1 h2; omega)
    | (exfalso; omega)
theorem toList_loop (bs : ByteArray) : ∀ (k i : Nat) (r : List UInt8), bs.size - i = k → ByteArray.toList.loop bs i r = r.reverse ++ bs.data.toList.drop i
  | 0, i, r, h => by
    unfold ByteArray.toList.loop
    rw [if_neg (by omega), List.drop_eq_nil_of_le (by rw [Array.length_toList]; show bs.size ≤ i; omega), List.append_nil]
  | k + 1, i, r, h => by
    have hi : i < bs.size := by omega
    have hi2 : i < bs.data.toList.length := by rw [Array.length_toList]; exact hi
    unfold ByteArray.toList.loop
    rw [if_pos hi, toList_loop bs k (i + 1) _ (by omega), List.drop_eq_getElem_cons hi2]
    have e : bs.get! i = bs.data.toList[i] := by
      show bs.data[i]! = _
      rw [getElem!_pos bs.data i hi]
      rfl
    rw [e]
    simp
theorem toList_data (bs : ByteArray) : bs.toList = bs.data.toList := by
  unfold ByteArray.toList
  rw [toList_loop bs _ 0 [] rfl]
  rfl
theorem byte_lt (x : UInt8) : x.toNat < 256 := x.toNat_lt
theorem take_ne {l : Bs} {n : Nat} {x y z : UInt8} (hn : n ≠ 3) (hl : n ≤ l.length) (h : l.take n = [x, y, z]) : False := by
  have := congrArg List.length h
  rw [List.length_take] at this
  simp only [List.length_cons, List.length_nil] at this
  omega
theorem take_three {l : Bs} (h : 2 < l.length) : l.take 3 = [l.getD 0 0, l.getD 1 0, l.getD 2 0] := by
  match l, h with
  | a :: b :: c :: r, _ => rfl
/-- a character of the document's is one of the program's, of as many bytes -/
theorem char_link (s : ByteArray) (i : Nat) (hi : i < s.size) : (charN s i = 0 ∧ okX (s.data.toList.drop i) = false) ∨ (charN s i = ((decodeL (s.data.toList.drop i)).2 : Int) ∧ okX (s.data.toList.drop i) = true ∧ 0 < (decodeL (s.data.toList.drop i)).2) := by
  have hU := utfN_D s i hi
  have hlen : (s.data.toList.drop i).length = s.size - i := by rw [List.length_drop, Array.length_toList]; rfl
  have hdl : decodeL (s.data.toList.drop i) = decodeN (s.size - i) (s.data.toList.getD i 0).toNat (s.data.toList.getD (i + 1) 0).toNat (s.data.toList.getD (i + 2) 0).toNat (s.data.toList.getD (i + 3) 0).toNat := by
    rw [decodeL_N, hlen, getD_dropU, getD_dropU, getD_dropU, getD_dropU, Nat.add_zero]
  have hex : ∀ n : Nat, (s.extract i (i + n)).toList = (s.data.toList.drop i).take n := by
    intro n
    rw [toList_data]
    rw [ByteArray.data_extract]
    simp [List.take_drop]
  have hg : ∀ k, (s.data.toList.drop i).getD k 0 = s.data.toList.getD (i + k) 0 := fun k => getD_dropU _ _ _
  have hb0 := bt_get s i
  have hg0 := hg 0
  have hg1 := hg 1
  have hg2 := hg 2
  rw [Nat.add_zero] at hg0
  clear hg
  generalize s.data.toList.drop i = l at *
  have hs := decodeN_shape (s.size - i) (s.data.toList.getD i 0).toNat (s.data.toList.getD (i + 1) 0).toNat (s.data.toList.getD (i + 2) 0).toNat (s.data.toList.getD (i + 3) 0).toNat
  have hD := utfD_decode (s.size - i) (s.data.toList.getD i 0).toNat (s.data.toList.getD (i + 1) 0).toNat (s.data.toList.getD (i + 2) 0).toNat (s.data.toList.getD (i + 3) 0).toNat (by omega) (byte_lt _) (byte_lt _) (byte_lt _) (byte_lt _)
  unfold charN okX
  rw [hU, hdl]
  simp only [hex]
  rcases hD with ⟨h0, h1⟩ | ⟨h0, h1, h2⟩
  · left
    rw [h0, h1]
    exact ⟨rfl, rfl⟩
  · generalize (s.data.toList.getD i 0) = a at *
    generalize (s.data.toList.getD (i + 1) 0) = b at *
    generalize (s.data.toList.getD (i + 2) 0) = c at *
    generalize (s.data.toList.getD (i + 3) 0) = d at *
    have hlg : 0 < l.length := by omega
    rw [← h1] at h0 ⊢
    rw [if_neg (by omega), hb0]
    have hkt : ∀ k : Nat, (k = 9 ∨ k = 10 ∨ k = 13 ∨ (32 ≤ k ∧ k ≤ 55295) ∨ (57344 ≤ k ∧ k ≤ 65533) ∨ (65536 ≤ k ∧ k ≤ 1114111)) → knowsX (k : Int) = true := by
      intro k hk
      simp only [knowsX, Bool.or_eq_true, Bool.and_eq_true, decide_eq_true_eq]
      omega
    have hkf : ∀ k : Nat, ¬ (k = 9 ∨ k = 10 ∨ k = 13 ∨ (32 ≤ k ∧ k ≤ 55295) ∨ (57344 ≤ k ∧ k ≤ 65533) ∨ (65536 ≤ k ∧ k ≤ 1114111)) → knowsX (k : Int) = false := by
      intro k hk
      rw [Bool.eq_false_iff]
      simp only [knowsX, ne_eq, Bool.or_eq_true, Bool.and_eq_true, decide_eq_true_eq]
      omega
    rcases hs with ⟨q1, e⟩ | ⟨q1, q2, q3, q4, e⟩ | ⟨q1, q2, q3, q4, q5, q6, e⟩ | ⟨q1, q2, q3, q4, q5, q6, q7, e⟩ | e
    · rw [e]
      simp only
      by_cases hk : a.toNat < 32 ∧ a.toNat ≠ 9 ∧ a.toNat ≠ 10 ∧ a.toNat ≠ 13
      · left
        rw [if_pos (by omega), hkf _ (by omega), Bool.and_false]
        exact ⟨rfl, rfl⟩
      · right
        rw [if_neg (by omega), if_neg (by rintro (h | h) <;> exact take_ne (by decide) (by show 1 ≤ _; omega) h), hkt _ (by omega)]
        exact ⟨rfl, by simp; omega, by decide⟩
    · rw [e]
      simp only
      right
      rw [if_neg (by omega), if_neg (by rintro (h | h) <;> exact take_ne (by decide) (by show 2 ≤ _; omega) h), hkt _ (by omega)]
      exact ⟨rfl, by simp, by decide⟩
    · rw [e]
      simp only
      rw [if_neg (by omega)]
      have ht : l.take ((3 : Nat) : Int).toNat = [a, b, c] := by
        show l.take 3 = _
        rw [take_three (by omega), hg0, hg1, hg2]
      rw [ht]
      have hu : ∀ (x : UInt8) (n : Nat), x.toNat = n → n < 256 → x = UInt8.ofNat n := fun x n h _ => by subst h; simp
      have hla := byte_lt a
      have hlb := byte_lt b
      have hlc := byte_lt c
      by_cases hv : a.toNat % 16 * 4096 + b.toNat % 64 * 64 + c.toNat % 64 = 65534 ∨ a.toNat % 16 * 4096 + b.toNat % 64 * 64 + c.toNat % 64 = 65535
      · left
        have e1 : a = 239 := hu a 239 (by omega) (by decide)
        have e2 : b = 191 := hu b 191 (by omega) (by decide)
        have e3 : c = 190 ∨ c = 191 := by
          rcases hv with hv | hv
          · exact .inl (hu c 190 (by omega) (by decide))
          · exact .inr (hu c 191 (by omega) (by decide))
        rw [if_pos (by rw [e1, e2]; rcases e3 with e3 | e3 <;> rw [e3] <;> simp), hkf _ (by omega), Bool.and_false]
        exact ⟨rfl, rfl⟩
      · right
        have hne : ¬ ([a, b, c] = [239, 191, 190] ∨ [a, b, c] = [239, 191, 191]) := by
          rintro (h | h)
          · injection h with k1 h; injection h with k2 h; injection h with k3 h
            exact hv (.inl (by rw [k1, k2, k3]; rfl))
          · injection h with k1 h; injection h with k2 h; injection h with k3 h
            exact hv (.inr (by rw [k1, k2, k3]; rfl))
        rw [if_neg hne, hkt _ (by omega)]
        exact ⟨rfl, by simp, by decide⟩
    · rw [e]
      simp only
      right
      rw [if_neg (by omega), if_neg (by rintro (h | h) <;> exact take_ne (by decide) (by show 4 ≤ _; omega) h), hkt _ (by omega)]
      exact ⟨rfl, by simp, by decide⟩
    · exact absurd e h2
end Go.Proofs.YtgmgghbocidibaaGreatDoor
