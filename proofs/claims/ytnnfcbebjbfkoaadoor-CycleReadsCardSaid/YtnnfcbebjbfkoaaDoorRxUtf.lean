/-
  storehouseref14.Utf: how many bytes the character at a place has.
-/
import Derived.Test.YtnnfcbebjbfkoaaDoorSm
import Derived.Handy
import Derived.PlainAid
namespace Go.Proofs.YtnnfcbebjbfkoaaDoor
open Go.RowKit Go.PlainAid

/-- the bytes that follow a leading one -/
def conts (s : ByteArray) : Nat → Nat → Int → Option Int
  | 0, _, c => some c
  | k + 1, i, c => if 128 ≤ bt s i ∧ bt s i ≤ 191 then conts s k (i + 1) (64 * c + bt s i - 128) else none
def utfTail (s : ByteArray) (i n : Nat) (least c : Int) : Int :=
  if s.size - i < n then 0 else match conts s (n - 1) (i + 1) c with
    | none => 0
    | some c => if c < least ∨ 1114111 < c ∨ (55296 ≤ c ∧ c ≤ 57343) then 0 else n
def utfN (s : ByteArray) (i : Nat) : Int :=
  if s.size ≤ i then 0
  else if bt s i < 128 then 1
  else if 194 ≤ bt s i ∧ bt s i < 224 then utfTail s i 2 128 (bt s i - 192)
  else if 224 ≤ bt s i ∧ bt s i < 240 then utfTail s i 3 2048 (bt s i - 224)
  else if 240 ≤ bt s i ∧ bt s i < 245 then utfTail s i 4 65536 (bt s i - 240)
  else 0

theorem ret_i64 {a b : Int} (h : a = b) : Ending.returned (.int .i64 a) = .returned (.int .i64 b) := by rw [h]

set_option maxHeartbeats 1000000 in
theorem utf_short (s : ByteArray) (i : Nat) (w : World) (_hs : s.size ≤ 140737488351232) (_hi : i ≤ 140737488351232) (h : s.size ≤ i ∨ bt s i < 128 ∨ (128 ≤ bt s i ∧ bt s i < 194) ∨ 245 ≤ bt s i) :
    Calls Tryd.prog 82 #[.string s, .int .i64 i] w fun e w' => e = .returned (.int .i64 (utfN s i)) ∧ w = w' := by
  have hb := get_bt s
  have b0 := bt_nonneg s i
  have b1 := bt_le s i
  by_cases h0 : s.size ≤ i
  · have e : utfN s i = 0 := by unfold utfN; rw [if_pos h0]
    rw [e]
    go_enter Tryd.func82, Tryd.ntmps82
    go_wp2
    go_ret
    exact ⟨rfl, rfl⟩
  · have h0' : (i : Int) < (s.size : Int) := by omega
    by_cases h1 : bt s i < 128
    · have e : utfN s i = 1 := by unfold utfN; rw [if_neg h0, if_pos h1]
      rw [e]
      go_enter Tryd.func82, Tryd.ntmps82
      go_wp2
      go_ret
      exact ⟨rfl, rfl⟩
    · have e : utfN s i = 0 := by unfold utfN; rw [if_neg h0, if_neg h1, if_neg (by omega), if_neg (by omega), if_neg (by omega)]
      rw [e]
      by_cases h2 : bt s i < 194
      · go_enter Tryd.func82, Tryd.ntmps82
        go_wp2
        go_ret
        exact ⟨rfl, rfl⟩
      · have h3 : 245 ≤ bt s i := by omega
        go_enter Tryd.func82, Tryd.ntmps82
        go_wp2
        go_ret
        exact ⟨rfl, rfl⟩

set_option maxHeartbeats 2000000 in
theorem utf_two (s : ByteArray) (i : Nat) (w : World) (hs : s.size ≤ 140737488351232) (hi : i < s.size) (h1 : 194 ≤ bt s i) (h2 : bt s i < 224) :
    Calls Tryd.prog 82 #[.string s, .int .i64 i] w fun e w' => e = .returned (.int .i64 (utfTail s i 2 128 (bt s i - 192))) ∧ w = w' := by
  have hb := get_bt s
  have b1 := bt_nonneg s (i + 1)
  have b2 := bt_le s (i + 1)
  have hi' : (i : Int) < (s.size : Int) := by omega
  go_each [s.size - i < 2, bt s (i + 1) < 128, 191 < bt s (i + 1)] => (
    go_enter Tryd.func82, Tryd.ntmps82
    go_wp2
    (try go_rounds 2)
    go_ret
    refine ⟨ret_i64 ?_, rfl⟩
    simp only [utfTail, conts]
    (repeat' split) <;> first | rfl | omega | (simp_all; done) | (simp_all; omega))

set_option maxHeartbeats 4000000 in
theorem utf_three (s : ByteArray) (i : Nat) (w : World) (hs : s.size ≤ 140737488351232) (hi : i < s.size) (h1 : 224 ≤ bt s i) (h2 : bt s i < 240) :
    Calls Tryd.prog 82 #[.string s, .int .i64 i] w fun e w' => e = .returned (.int .i64 (utfTail s i 3 2048 (bt s i - 224))) ∧ w = w' := by
  have hb := get_bt s
  have b1 := bt_nonneg s (i + 1)
  have b2 := bt_le s (i + 1)
  have b3 := bt_nonneg s (i + 2)
  have b4 := bt_le s (i + 2)
  have hi' : (i : Int) < (s.size : Int) := by omega
  by_cases hz : s.size - i < 3
  · go_enter Tryd.func82, Tryd.ntmps82
    go_wp2
    go_ret
    exact ⟨ret_i64 (by unfold utfTail; rw [if_pos hz]), rfl⟩
  by_cases hc1 : bt s (i + 1) < 128 ∨ 191 < bt s (i + 1)
  · have e : utfTail s i 3 2048 (bt s i - 224) = 0 := by unfold utfTail; rw [if_neg hz]; simp only [conts, Nat.add_assoc, Nat.reduceAdd]; rw [if_neg (by omega)]
    rw [e]
    rcases hc1 with hc1 | hc1
    all_goals
      go_enter Tryd.func82, Tryd.ntmps82
      go_wp2
      go_rounds 3
      go_ret
      exact ⟨rfl, rfl⟩
  by_cases hc2 : bt s (i + 2) < 128 ∨ 191 < bt s (i + 2)
  · have e : utfTail s i 3 2048 (bt s i - 224) = 0 := by unfold utfTail; rw [if_neg hz]; simp only [conts, Nat.add_assoc, Nat.reduceAdd]; rw [if_pos (by omega), if_neg (by omega)]
    rw [e]
    rcases hc2 with hc2 | hc2
    all_goals
      go_enter Tryd.func82, Tryd.ntmps82
      go_wp2
      go_rounds 3
      go_ret
      exact ⟨rfl, rfl⟩
  have e0 : conts s 2 (i + 1) (bt s i - 224) = some (64 * (64 * (bt s i - 224) + bt s (i + 1) - 128) + bt s (i + 2) - 128) := by simp only [conts, Nat.add_assoc, Nat.reduceAdd]; rw [if_pos (by omega), if_pos (by omega)]
  have e : utfTail s i 3 2048 (bt s i - 224) = if 64 * (64 * (bt s i - 224) + bt s (i + 1) - 128) + bt s (i + 2) - 128 < 2048 ∨ 1114111 < 64 * (64 * (bt s i - 224) + bt s (i + 1) - 128) + bt s (i + 2) - 128 ∨ (55296 ≤ 64 * (64 * (bt s i - 224) + bt s (i + 1) - 128) + bt s (i + 2) - 128 ∧ 64 * (64 * (bt s i - 224) + bt s (i + 1) - 128) + bt s (i + 2) - 128 ≤ 57343) then 0 else 3 := by
    unfold utfTail; rw [if_neg hz]; simp only [Nat.reduceSub, e0]; rfl
  rw [e]
  clear e e0
  go_each [64 * (64 * (bt s i - 224) + bt s (i + 1) - 128) + bt s (i + 2) - 128 < 2048, 55296 ≤ 64 * (64 * (bt s i - 224) + bt s (i + 1) - 128) + bt s (i + 2) - 128, 64 * (64 * (bt s i - 224) + bt s (i + 1) - 128) + bt s (i + 2) - 128 ≤ 57343] => (
    go_enter Tryd.func82, Tryd.ntmps82
    go_wp2
    go_rounds 3
    go_ret
    refine ⟨ret_i64 ?_, rfl⟩
    first | rfl | (rw [if_pos (by omega)]; done) | (rw [if_neg (by omega)]; done))

set_option maxHeartbeats 8000000 in
theorem utf_four (s : ByteArray) (i : Nat) (w : World) (hs : s.size ≤ 140737488351232) (hi : i < s.size) (h1 : 240 ≤ bt s i) (h2 : bt s i < 245) :
    Calls Tryd.prog 82 #[.string s, .int .i64 i] w fun e w' => e = .returned (.int .i64 (utfTail s i 4 65536 (bt s i - 240))) ∧ w = w' := by
  have hb := get_bt s
  have b1 := bt_nonneg s (i + 1)
  have b2 := bt_le s (i + 1)
  have b3 := bt_nonneg s (i + 2)
  have b4 := bt_le s (i + 2)
  have b5 := bt_nonneg s (i + 3)
  have b6 := bt_le s (i + 3)
  have hi' : (i : Int) < (s.size : Int) := by omega
  by_cases hz : s.size - i < 4
  · go_enter Tryd.func82, Tryd.ntmps82
    go_wp2
    go_ret
    exact ⟨ret_i64 (by unfold utfTail; rw [if_pos hz]), rfl⟩
  by_cases hc1 : bt s (i + 1) < 128 ∨ 191 < bt s (i + 1)
  · have e : utfTail s i 4 65536 (bt s i - 240) = 0 := by unfold utfTail; rw [if_neg hz]; simp only [conts, Nat.add_assoc, Nat.reduceAdd]; rw [if_neg (by omega)]
    rw [e]
    rcases hc1 with hc1 | hc1
    all_goals
      go_enter Tryd.func82, Tryd.ntmps82
      go_wp2
      go_rounds 4
      go_ret
      exact ⟨rfl, rfl⟩
  by_cases hc2 : bt s (i + 2) < 128 ∨ 191 < bt s (i + 2)
  · have e : utfTail s i 4 65536 (bt s i - 240) = 0 := by unfold utfTail; rw [if_neg hz]; simp only [conts, Nat.add_assoc, Nat.reduceAdd]; rw [if_pos (by omega), if_neg (by omega)]
    rw [e]
    rcases hc2 with hc2 | hc2
    all_goals
      go_enter Tryd.func82, Tryd.ntmps82
      go_wp2
      go_rounds 4
      go_ret
      exact ⟨rfl, rfl⟩
  by_cases hc3 : bt s (i + 3) < 128 ∨ 191 < bt s (i + 3)
  · have e : utfTail s i 4 65536 (bt s i - 240) = 0 := by unfold utfTail; rw [if_neg hz]; simp only [conts, Nat.add_assoc, Nat.reduceAdd]; rw [if_pos (by omega), if_pos (by omega), if_neg (by omega)]
    rw [e]
    rcases hc3 with hc3 | hc3
    all_goals
      go_enter Tryd.func82, Tryd.ntmps82
      go_wp2
      go_rounds 4
      go_ret
      exact ⟨rfl, rfl⟩
  have e0 : conts s 3 (i + 1) (bt s i - 240) = some (64 * (64 * (64 * (bt s i - 240) + bt s (i + 1) - 128) + bt s (i + 2) - 128) + bt s (i + 3) - 128) := by simp only [conts, Nat.add_assoc, Nat.reduceAdd]; rw [if_pos (by omega), if_pos (by omega), if_pos (by omega)]
  have e : utfTail s i 4 65536 (bt s i - 240) = if 64 * (64 * (64 * (bt s i - 240) + bt s (i + 1) - 128) + bt s (i + 2) - 128) + bt s (i + 3) - 128 < 65536 ∨ 1114111 < 64 * (64 * (64 * (bt s i - 240) + bt s (i + 1) - 128) + bt s (i + 2) - 128) + bt s (i + 3) - 128 ∨ (55296 ≤ 64 * (64 * (64 * (bt s i - 240) + bt s (i + 1) - 128) + bt s (i + 2) - 128) + bt s (i + 3) - 128 ∧ 64 * (64 * (64 * (bt s i - 240) + bt s (i + 1) - 128) + bt s (i + 2) - 128) + bt s (i + 3) - 128 ≤ 57343) then 0 else 4 := by
    unfold utfTail; rw [if_neg hz]; simp only [Nat.reduceSub, e0]; rfl
  rw [e]
  clear e e0
  go_each [64 * (64 * (64 * (bt s i - 240) + bt s (i + 1) - 128) + bt s (i + 2) - 128) + bt s (i + 3) - 128 < 65536, 64 * (64 * (64 * (bt s i - 240) + bt s (i + 1) - 128) + bt s (i + 2) - 128) + bt s (i + 3) - 128 ≤ 1114111] => (
    go_enter Tryd.func82, Tryd.ntmps82
    go_wp2
    go_rounds 4
    go_ret
    refine ⟨ret_i64 ?_, rfl⟩
    first | rfl | (rw [if_pos (by omega)]; done) | (rw [if_neg (by omega)]; done))

/-- Utf, at whatever place of whatever text -/
theorem utf_any (s : ByteArray) (i : Nat) (w : World) (hs : s.size ≤ 140737488351232) (hi : i ≤ 140737488351232) :
    Calls Tryd.prog 82 #[.string s, .int .i64 i] w fun e w' => e = .returned (.int .i64 (utfN s i)) ∧ w = w' := by
  by_cases h : s.size ≤ i ∨ bt s i < 128 ∨ (128 ≤ bt s i ∧ bt s i < 194) ∨ 245 ≤ bt s i
  · exact utf_short s i w hs hi h
  · have hlt : i < s.size := by omega
    by_cases h2 : bt s i < 224
    · have e : utfN s i = utfTail s i 2 128 (bt s i - 192) := by unfold utfN; rw [if_neg (by omega), if_neg (by omega), if_pos (by omega)]
      rw [e]; exact utf_two s i w hs hlt (by omega) h2
    · by_cases h3 : bt s i < 240
      · have e : utfN s i = utfTail s i 3 2048 (bt s i - 224) := by unfold utfN; rw [if_neg (by omega), if_neg (by omega), if_neg (by omega), if_pos (by omega)]
        rw [e]; exact utf_three s i w hs hlt (by omega) h3
      · have e : utfN s i = utfTail s i 4 65536 (bt s i - 240) := by unfold utfN; rw [if_neg (by omega), if_neg (by omega), if_neg (by omega), if_neg (by omega), if_pos (by omega)]
        rw [e]; exact utf_four s i w hs hlt (by omega) (by omega)

theorem utfTail_bd (s : ByteArray) (i n : Nat) (l c : Int) : 0 ≤ utfTail s i n l c ∧ utfTail s i n l c ≤ n ∧ (0 < utfTail s i n l c → i + utfTail s i n l c ≤ s.size) := by
  unfold utfTail
  split
  · omega
  · split
    · omega
    · split <;> omega
theorem utfN_bd (s : ByteArray) (i : Nat) : 0 ≤ utfN s i ∧ utfN s i ≤ 4 ∧ (0 < utfN s i → i + utfN s i ≤ s.size) := by
  have h2 := utfTail_bd s i 2 128 (bt s i - 192)
  have h3 := utfTail_bd s i 3 2048 (bt s i - 224)
  have h4 := utfTail_bd s i 4 65536 (bt s i - 240)
  unfold utfN
  (repeat' split) <;> omega

end Go.Proofs.YtnnfcbebjbfkoaaDoor
