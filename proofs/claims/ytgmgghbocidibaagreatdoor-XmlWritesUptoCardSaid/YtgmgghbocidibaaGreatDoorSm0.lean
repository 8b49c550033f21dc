/-
  SEVERAL SMALL TEXTS IN ONE.
-/
import Derived.Test.YtgmgghbocidibaaGreatDoorRows
import Derived.WalkKit
import Derived.WalkSpells
import Derived.WalkLawsBesides
import Derived.Deep.QuietTactic
import Derived.BigQuiet
import Derived.Lib.Hide
import Derived.Handy
import Derived.PlainAid
/-
  WHAT ALL WALKS OF THIS SEAT SHARE: slices of rows of cells, read; what a call leaves.
-/
namespace Go.Proofs.YtgmgghbocidibaaGreatDoor
open Go.RowKit

/-- v is a slice of rows of sz cells each, and the world holds them. -/
def SlAt (w : World) (sz : Nat) (v : Value) (rows : List (List Value)) : Prop :=
  ∃ a c, v = .slice a rows.length c ∧ rows.length ≤ 140737488351232 ∧ ∀ i r, rows[i]? = some r → ∃ b off, a = some ⟨b, off, none⟩ ∧ ∀ j u, r[j]? = some u → w.cell? ⟨b, off + i * sz + j, none⟩ = some u

theorem cell_new (w : World) (c : Array Value) (t : TypeId) (n j : Nat) (v : Value) (h : n = w.heap.size) (hv : c[j]? = some v) : (w.alloc (.cells c t)).cell? ⟨n, j, none⟩ = some v := by
  subst h; simp [hv]
theorem cell_past {w : World} (o : Obj) {a : Addr} {v : Value} (h : w.cell? a = some v) : (w.alloc o).cell? a = some v := by
  have hlt := World.block_lt_of_cell? w a h
  rw [World.cell?_alloc_lt _ _ _ hlt]; exact h
theorem free_past {w : World} (o : Obj) {a : Addr} (hlt : a.block < w.heap.size) (h : w.frozen? a = false) : (w.alloc o).frozen? a = false := by
  rw [World.frozen?_of_block (w := w) (Below.heap_alloc w o a.block hlt)]; exact h
theorem below_alloc {B : Nat} {a w : World} (h : Below B a w) (hB : B ≤ a.heap.size) (o : Obj) : Below B a (w.alloc o) := h.alloc (Nat.le_trans hB h.size) o

theorem cell_of_heap {w : World} {g x : Nat} {cur : Array Value} {t : TypeId} (h : w.heap[g]? = some (.cells cur t (0, 0))) : w.cell? ⟨g, x, none⟩ = cur[x]? := by
  simp [World.cell?, h]
theorem free_of_heap {w : World} {g x : Nat} {cur : Array Value} {t : TypeId} (h : w.heap[g]? = some (.cells cur t (0, 0))) : w.frozen? ⟨g, x, none⟩ = false := by
  simp [World.frozen?, h]
theorem heap_set {w : World} {g x : Nat} {cur : Array Value} {t : TypeId} (h : w.heap[g]? = some (.cells cur t (0, 0))) (v : Value) : (w.setCell ⟨g, x, none⟩ v).heap[g]? = some (.cells (cur.setIfInBounds x v) t (0, 0)) := by
  simp [World.setCell, Array.getElem?_modify, h]

theorem cells_new (w : World) (c : Array Value) (t : TypeId) (j : Nat) (u : Value) (h : c.toList[j]? = some u) : (w.alloc (.cells c t)).cell? ((⟨w.heap.size, 0, none⟩ : Addr).add j) = some u := by
  rw [Addr.add_lit]
  exact cell_new _ _ _ _ _ _ rfl (by simpa using h)

theorem results_cell_tmp {P : Program} {fn : Func} {p q : Tmp} {ty : TypeId} (h : fn.results = #[.cell p ty, .tmp q]) (tmps : Array Value) (w : World) (g : Nat) (t : TypeId) (cs : Array Value) (d : TypeDesc)
    (hp : tmps.getD p undef = .pointer (some ⟨g, 0, none⟩)) (hg : w.heap[g]? = some (.cells cs t (0, 0)))
    (hu : P.underlying ty = some d) (hd : (match d with | .struct _ | .array _ _ => true | _ => false) = true) (hi : (P.info? ty).map (·.size) = some cs.size) :
    (results fn tmps).run P w = .ok (.tuple #[.agg cs, tmps.getD q undef]) w := by
  have hp' : tmps[p]?.getD undef = .pointer (some ⟨g, 0, none⟩) := by simpa using hp
  simp [results, h, hp', asAddr, run_loadVar_row w g t ty cs (0, 0) d hg hu hd hi]

theorem setRow_alloc (w : World) (old new : Array Value) (t : TypeId) (g : Nat) (h : g = w.heap.size) : (w.alloc (.cells old t)).setRow g new = w.alloc (.cells new t) := by
  subst h
  unfold World.setRow World.alloc
  congr 1
  apply Array.ext_getElem?
  intro i
  rw [Array.getElem?_modify, Array.getElem?_push, Array.getElem?_push]
  by_cases h : w.heap.size = i
  · subst h; simp
  · rw [if_neg h, if_neg (by omega), if_neg (by omega)]

theorem heap_at (w : World) (o : Obj) {g : Nat} (h : g = w.heap.size) : (w.alloc o).heap[g]? = some o := by subst h; exact heap_alloc_new w o

theorem heap_at1 (w : World) (o1 o2 : Obj) : ((w.alloc o1).alloc o2).heap[w.heap.size + 1]? = some o2 := heap_at _ _ (by simp)
theorem setRow_alloc1 (w : World) (o : Obj) (old new : Array Value) (t : TypeId) : ((w.alloc o).alloc (.cells old t)).setRow (w.heap.size + 1) new = (w.alloc o).alloc (.cells new t) := setRow_alloc _ _ _ _ _ (by simp)

theorem below_two_row (B : Nat) (a w : World) (o1 o2 : Obj) (g : Nat) (new : Array Value) (h : Below B a w) (hg : B ≤ g) (hB : B ≤ a.heap.size) : Below B a (((w.alloc o1).alloc o2).setRow g new) := by
  refine (below_alloc (below_alloc h hB _) hB _).trans ⟨rfl, rfl, rfl, by simp, fun k hk => setRow_other _ _ _ _ (by omega)⟩

theorem below_cell_row (B : Nat) (a w : World) (p : Addr) (u : Value) (g : Nat) (new : Array Value) (h : Below B a w) (hp : B ≤ p.block) (hg : B ≤ g) : Below B a ((w.setCell p u).setRow g new) :=
  (h.setCell hp u).trans ⟨rfl, rfl, rfl, by simp, fun _ hk => setRow_other _ _ _ _ (by omega)⟩
theorem below_cell2_row (B : Nat) (a w : World) (p q : Addr) (u v : Value) (g : Nat) (new : Array Value) (h : Below B a w) (hp : B ≤ p.block) (hq : B ≤ q.block) (hg : B ≤ g) : Below B a (((w.setCell p u).setCell q v).setRow g new) :=
  ((h.setCell hp u).setCell hq v).trans ⟨rfl, rfl, rfl, by simp, fun _ hk => setRow_other _ _ _ _ (by omega)⟩

theorem find_first {α : Type} {p : α → Bool} : ∀ (l : List α) (i : Nat) (u : α), l[i]? = some u → p u = true → (∀ (j : Nat) (x : α), j < i → l[j]? = some x → p x = false) → l.find? p = some u
  | [], _, _, h, _, _ => by cases h
  | x :: l, 0, u, h, hp, _ => by simp at h; subst h; simp [hp]
  | x :: l, i + 1, u, h, hp, hb => by
    have hx := hb 0 x (by omega) rfl
    simp only [List.find?_cons, hx]
    exact find_first l i u (by simpa using h) hp (fun j y hj hy => hb (j + 1) y (by omega) (by simpa using hy))
theorem find_none {α : Type} {p : α → Bool} (l : List α) (hb : ∀ (j : Nat) (x : α), l[j]? = some x → p x = false) : l.find? p = none := by
  rw [List.find?_eq_none]
  intro x hx
  obtain ⟨j, hj⟩ := List.getElem?_of_mem hx
  simp [hb j x hj]
theorem below_one_row (B : Nat) (a w : World) (g : Nat) (new : Array Value) (h : Below B a w) (hg : B ≤ g) : Below B a (w.setRow g new) :=
  h.trans ⟨rfl, rfl, rfl, by simp, fun _ hk => setRow_other _ _ _ _ (by omega)⟩

/-- a number fits an int -/
def IntOK (n : Int) : Prop := -9223372036854775808 ≤ n ∧ n ≤ 9223372036854775807

end Go.Proofs.YtgmgghbocidibaaGreatDoor

/-
  storehouseref14.Utf: how many bytes the character at a place has.
-/
namespace Go.Proofs.YtgmgghbocidibaaGreatDoor
open Go.RowKit Go.PlainAid

/-- the bytes that follow a leading one -/
def conts (s : ByteArray) : Nat → Nat → Int → Option Int
  | 0, _, c => some c
  | k + 1, i, c => if 128 ≤ bt s i ∧ bt s i ≤ 191 then conts s k (i + 1) (64 * c + bt s i - 128) else none
def utfTail (s : ByteArray) (i n : Nat) (least c : Int) : Int :=
  if s.size - i < n then 0 else match conts s (n - 1) (i + 1) c with
    | none => 0
    | some c => if c < least ∨ 1114111 < c ∨ (55296 ≤ c ∧ c ≤ 57343) then 0 else n
def utfN (s : ByteArray) (i : Nat) : Int :=
  if s.size ≤ i then 0
  else if bt s i < 128 then 1
  else if 194 ≤ bt s i ∧ bt s i < 224 then utfTail s i 2 128 (bt s i - 192)
  else if 224 ≤ bt s i ∧ bt s i < 240 then utfTail s i 3 2048 (bt s i - 224)
  else if 240 ≤ bt s i ∧ bt s i < 245 then utfTail s i 4 65536 (bt s i - 240)
  else 0

theorem ret_i64 {a b : Int} (h : a = b) : Ending.returned (.int .i64 a) = .returned (.int .i64 b) := by rw [h]

set_option maxHeartbeats 1000000 in
theorem utf_short (s : ByteArray) (i : Nat) (w : World) (_hs : s.size ≤ 140737488351232) (_hi : i ≤ 140737488351232) (h : s.size ≤ i ∨ bt s i < 128 ∨ (128 ≤ bt s i ∧ bt s i < 194) ∨ 245 ≤ bt s i) :
    Calls Tryz.prog 83 #[.string s, .int .i64 i] w fun e w' => e = .returned (.int .i64 (utfN s i)) ∧ w = w' := by
  have hb := get_bt s
  have b0 := bt_nonneg s i
  have b1 := bt_le s i
  by_cases h0 : s.size ≤ i
  · have e : utfN s i = 0 := by unfold utfN; rw [if_pos h0]
    rw [e]
    go_enter Tryz.func83, Tryz.ntmps83
    go_wp2
    go_ret
    exact ⟨rfl, rfl⟩
  · have h0' : (i : Int) < (s.size : Int) := by omega
    by_cases h1 : bt s i < 128
    · have e : utfN s i = 1 := by unfold utfN; rw [if_neg h0, if_pos h1]
      rw [e]
      go_enter Tryz.func83, Tryz.ntmps83
      go_wp2
      go_ret
      exact ⟨rfl, rfl⟩
    · have e : utfN s i = 0 := by unfold utfN; rw [if_neg h0, if_neg h1, if_neg (by omega), if_neg (by omega), if_neg (by omega)]
      rw [e]
      by_cases h2 : bt s i < 194
      · go_enter Tryz.func83, Tryz.ntmps83
        go_wp2
        go_ret
        exact ⟨rfl, rfl⟩
      · have h3 : 245 ≤ bt s i := by omega
        go_enter Tryz.func83, Tryz.ntmps83
        go_wp2
        go_ret
        exact ⟨rfl, rfl⟩

set_option maxHeartbeats 2000000 in
theorem utf_two (s : ByteArray) (i : Nat) (w : World) (hs : s.size ≤ 140737488351232) (hi : i < s.size) (h1 : 194 ≤ bt s i) (h2 : bt s i < 224) :
    Calls Tryz.prog 83 #[.string s, .int .i64 i] w fun e w' => e = .returned (.int .i64 (utfTail s i 2 128 (bt s i - 192))) ∧ w = w' := by
  have hb := get_bt s
  have b1 := bt_nonneg s (i + 1)
  have b2 := bt_le s (i + 1)
  have hi' : (i : Int) < (s.size : Int) := by omega
  go_each [s.size - i < 2, bt s (i + 1) < 128, 191 < bt s (i + 1)] => (
    go_enter Tryz.func83, Tryz.ntmps83
    go_wp2
    (try go_rounds 2)
    go_ret
    refine ⟨ret_i64 ?_, rfl⟩
    simp only [utfTail, conts]
    (repeat' split) <;> first | rfl | omega | (simp_all; done) | (simp_all; omega))

set_option maxHeartbeats 4000000 in
theorem utf_three (s : ByteArray) (i : Nat) (w : World) (hs : s.size ≤ 140737488351232) (hi : i < s.size) (h1 : 224 ≤ bt s i) (h2 : bt s i < 240) :
    Calls Tryz.prog 83 #[.string s, .int .i64 i] w fun e w' => e = .returned (.int .i64 (utfTail s i 3 2048 (bt s i - 224))) ∧ w = w' := by
  have hb := get_bt s
  have b1 := bt_nonneg s (i + 1)
  have b2 := bt_le s (i + 1)
  have b3 := bt_nonneg s (i + 2)
  have b4 := bt_le s (i + 2)
  have hi' : (i : Int) < (s.size : Int) := by omega
  by_cases hz : s.size - i < 3
  · go_enter Tryz.func83, Tryz.ntmps83
    go_wp2
    go_ret
    exact ⟨ret_i64 (by unfold utfTail; rw [if_pos hz]), rfl⟩
  by_cases hc1 : bt s (i + 1) < 128 ∨ 191 < bt s (i + 1)
  · have e : utfTail s i 3 2048 (bt s i - 224) = 0 := by unfold utfTail; rw [if_neg hz]; simp only [conts, Nat.add_assoc, Nat.reduceAdd]; rw [if_neg (by omega)]
    rw [e]
    rcases hc1 with hc1 | hc1
    all_goals
      go_enter Tryz.func83, Tryz.ntmps83
      go_wp2
      go_rounds 3
      go_ret
      exact ⟨rfl, rfl⟩
  by_cases hc2 : bt s (i + 2) < 128 ∨ 191 < bt s (i + 2)
  · have e : utfTail s i 3 2048 (bt s i - 224) = 0 := by unfold utfTail; rw [if_neg hz]; simp only [conts, Nat.add_assoc, Nat.reduceAdd]; rw [if_pos (by omega), if_neg (by omega)]
    rw [e]
    rcases hc2 with hc2 | hc2
    all_goals
      go_enter Tryz.func83, Tryz.ntmps83
      go_wp2
      go_rounds 3
      go_ret
      exact ⟨rfl, rfl⟩
  have e0 : conts s 2 (i + 1) (bt s i - 224) = some (64 * (64 * (bt s i - 224) + bt s (i + 1) - 128) + bt s (i + 2) - 128) := by simp only [conts, Nat.add_assoc, Nat.reduceAdd]; rw [if_pos (by omega), if_pos (by omega)]
  have e : utfTail s i 3 2048 (bt s i - 224) = if 64 * (64 * (bt s i - 224) + bt s (i + 1) - 128) + bt s (i + 2) - 128 < 2048 ∨ 1114111 < 64 * (64 * (bt s i - 224) + bt s (i + 1) - 128) + bt s (i + 2) - 128 ∨ (55296 ≤ 64 * (64 * (bt s i - 224) + bt s (i + 1) - 128) + bt s (i + 2) - 128 ∧ 64 * (64 * (bt s i - 224) + bt s (i + 1) - 128) + bt s (i + 2) - 128 ≤ 57343) then 0 else 3 := by
    unfold utfTail; rw [if_neg hz]; simp only [Nat.reduceSub, e0]; rfl
  rw [e]
  clear e e0
  go_each [64 * (64 * (bt s i - 224) + bt s (i + 1) - 128) + bt s (i + 2) - 128 < 2048, 55296 ≤ 64 * (64 * (bt s i - 224) + bt s (i + 1) - 128) + bt s (i + 2) - 128, 64 * (64 * (bt s i - 224) + bt s (i + 1) - 128) + bt s (i + 2) - 128 ≤ 57343] => (
    go_enter Tryz.func83, Tryz.ntmps83
    go_wp2
    go_rounds 3
    go_ret
    refine ⟨ret_i64 ?_, rfl⟩
    first | rfl | (rw [if_pos (by omega)]; done) | (rw [if_neg (by omega)]; done))

set_option maxHeartbeats 8000000 in
theorem utf_four (s : ByteArray) (i : Nat) (w : World) (hs : s.size ≤ 140737488351232) (hi : i < s.size) (h1 : 240 ≤ bt s i) (h2 : bt s i < 245) :
    Calls Tryz.prog 83 #[.string s, .int .i64 i] w fun e w' => e = .returned (.int .i64 (utfTail s i 4 65536 (bt s i - 240))) ∧ w = w' := by
  have hb := get_bt s
  have b1 := bt_nonneg s (i + 1)
  have b2 := bt_le s (i + 1)
  have b3 := bt_nonneg s (i + 2)
  have b4 := bt_le s (i + 2)
  have b5 := bt_nonneg s (i + 3)
  have b6 := bt_le s (i + 3)
  have hi' : (i : Int) < (s.size : Int) := by omega
  by_cases hz : s.size - i < 4
  · go_enter Tryz.func83, Tryz.ntmps83
    go_wp2
    go_ret
    exact ⟨ret_i64 (by unfold utfTail; rw [if_pos hz]), rfl⟩
  by_cases hc1 : bt s (i + 1) < 128 ∨ 191 < bt s (i + 1)
  · have e : utfTail s i 4 65536 (bt s i - 240) = 0 := by unfold utfTail; rw [if_neg hz]; simp only [conts, Nat.add_assoc, Nat.reduceAdd]; rw [if_neg (by omega)]
    rw [e]
    rcases hc1 with hc1 | hc1
    all_goals
      go_enter Tryz.func83, Tryz.ntmps83
      go_wp2
      go_rounds 4
      go_ret
      exact ⟨rfl, rfl⟩
  by_cases hc2 : bt s (i + 2) < 128 ∨ 191 < bt s (i + 2)
  · have e : utfTail s i 4 65536 (bt s i - 240) = 0 := by unfold utfTail; rw [if_neg hz]; simp only [conts, Nat.add_assoc, Nat.reduceAdd]; rw [if_pos (by omega), if_neg (by omega)]
    rw [e]
    rcases hc2 with hc2 | hc2
    all_goals
      go_enter Tryz.func83, Tryz.ntmps83
      go_wp2
      go_rounds 4
      go_ret
      exact ⟨rfl, rfl⟩
  by_cases hc3 : bt s (i + 3) < 128 ∨ 191 < bt s (i + 3)
  · have e : utfTail s i 4 65536 (bt s i - 240) = 0 := by unfold utfTail; rw [if_neg hz]; simp only [conts, Nat.add_assoc, Nat.reduceAdd]; rw [if_pos (by omega), if_pos (by omega), if_neg (by omega)]
    rw [e]
    rcases hc3 with hc3 | hc3
    all_goals
      go_enter Tryz.func83, Tryz.ntmps83
      go_wp2
      go_rounds 4
      go_ret
      exact ⟨rfl, rfl⟩
  have e0 : conts s 3 (i + 1) (bt s i - 240) = some (64 * (64 * (64 * (bt s i - 240) + bt s (i + 1) - 128) + bt s (i + 2) - 128) + bt s (i + 3) - 128) := by simp only [conts, Nat.add_assoc, Nat.reduceAdd]; rw [if_pos (by omega), if_pos (by omega), if_pos (by omega)]
  have e : utfTail s i 4 65536 (bt s i - 240) = if 64 * (64 * (64 * (bt s i - 240) + bt s (i + 1) - 128) + bt s (i + 2) - 128) + bt s (i + 3) - 128 < 65536 ∨ 1114111 < 64 * (64 * (64 * (bt s i - 240) + bt s (i + 1) - 128) + bt s (i + 2) - 128) + bt s (i + 3) - 128 ∨ (55296 ≤ 64 * (64 * (64 * (bt s i - 240) + bt s (i + 1) - 128) + bt s (i + 2) - 128) + bt s (i + 3) - 128 ∧ 64 * (64 * (64 * (bt s i - 240) + bt s (i + 1) - 128) + bt s (i + 2) - 128) + bt s (i + 3) - 128 ≤ 57343) then 0 else 4 := by
    unfold utfTail; rw [if_neg hz]; simp only [Nat.reduceSub, e0]; rfl
  rw [e]
  clear e e0
  go_each [64 * (64 * (64 * (bt s i - 240) + bt s (i + 1) - 128) + bt s (i + 2) - 128) + bt s (i + 3) - 128 < 65536, 64 * (64 * (64 * (bt s i - 240) + bt s (i + 1) - 128) + bt s (i + 2) - 128) + bt s (i + 3) - 128 ≤ 1114111] => (
    go_enter Tryz.func83, Tryz.ntmps83
    go_wp2
    go_rounds 4
    go_ret
    refine ⟨ret_i64 ?_, rfl⟩
    first | rfl | (rw [if_pos (by omega)]; done) | (rw [if_neg (by omega)]; done))

/-- Utf, at whatever place of whatever text -/
theorem utf_any (s : ByteArray) (i : Nat) (w : World) (hs : s.size ≤ 140737488351232) (hi : i ≤ 140737488351232) :
    Calls Tryz.prog 83 #[.string s, .int .i64 i] w fun e w' => e = .returned (.int .i64 (utfN s i)) ∧ w = w' := by
  by_cases h : s.size ≤ i ∨ bt s i < 128 ∨ (128 ≤ bt s i ∧ bt s i < 194) ∨ 245 ≤ bt s i
  · exact utf_short s i w hs hi h
  · have hlt : i < s.size := by omega
    by_cases h2 : bt s i < 224
    · have e : utfN s i = utfTail s i 2 128 (bt s i - 192) := by unfold utfN; rw [if_neg (by omega), if_neg (by omega), if_pos (by omega)]
      rw [e]; exact utf_two s i w hs hlt (by omega) h2
    · by_cases h3 : bt s i < 240
      · have e : utfN s i = utfTail s i 3 2048 (bt s i - 224) := by unfold utfN; rw [if_neg (by omega), if_neg (by omega), if_neg (by omega), if_pos (by omega)]
        rw [e]; exact utf_three s i w hs hlt (by omega) h3
      · have e : utfN s i = utfTail s i 4 65536 (bt s i - 240) := by unfold utfN; rw [if_neg (by omega), if_neg (by omega), if_neg (by omega), if_neg (by omega), if_pos (by omega)]
        rw [e]; exact utf_four s i w hs hlt (by omega) (by omega)

theorem utfTail_bd (s : ByteArray) (i n : Nat) (l c : Int) : 0 ≤ utfTail s i n l c ∧ utfTail s i n l c ≤ n ∧ (0 < utfTail s i n l c → i + utfTail s i n l c ≤ s.size) := by
  unfold utfTail
  split
  · omega
  · split
    · omega
    · split <;> omega
theorem utfN_bd (s : ByteArray) (i : Nat) : 0 ≤ utfN s i ∧ utfN s i ≤ 4 ∧ (0 < utfN s i → i + utfN s i ≤ s.size) := by
  have h2 := utfTail_bd s i 2 128 (bt s i - 192)
  have h3 := utfTail_bd s i 3 2048 (bt s i - 224)
  have h4 := utfTail_bd s i 4 65536 (bt s i - 240)
  unfold utfN
  (repeat' split) <;> omega

end Go.Proofs.YtgmgghbocidibaaGreatDoor
