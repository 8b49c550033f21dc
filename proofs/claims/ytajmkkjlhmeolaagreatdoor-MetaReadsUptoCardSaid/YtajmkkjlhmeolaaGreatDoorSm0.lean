/-
  SEVERAL SMALL TEXTS IN ONE.
-/
import Derived.Test.YtajmkkjlhmeolaaGreatDoorRows
import Derived.WalkKit
import Derived.WalkSpells
import Derived.WalkLawsBesides
import Derived.Deep.QuietTactic
import Derived.BigQuiet
import Derived.Lib.Hide
import Derived.Lib.ItoaNum
import Derived.Lib.AtoiAll
/-
  WHAT ALL WALKS OF THIS SEAT SHARE: slices of rows of cells, read; what a call leaves.
-/
namespace Go.Proofs.YtajmkkjlhmeolaaGreatDoor
open Go.RowKit

/-- v is a slice of rows of sz cells each, and the world holds them. -/
def SlAt (w : World) (sz : Nat) (v : Value) (rows : List (List Value)) : Prop :=
  ∃ a c, v = .slice a rows.length c ∧ rows.length ≤ 140737488351232 ∧ ∀ i r, rows[i]? = some r → ∃ b off, a = some ⟨b, off, none⟩ ∧ ∀ j u, r[j]? = some u → w.cell? ⟨b, off + i * sz + j, none⟩ = some u

theorem cell_new (w : World) (c : Array Value) (t : TypeId) (n j : Nat) (v : Value) (h : n = w.heap.size) (hv : c[j]? = some v) : (w.alloc (.cells c t)).cell? ⟨n, j, none⟩ = some v := by
  subst h; simp [hv]
theorem cell_past {w : World} (o : Obj) {a : Addr} {v : Value} (h : w.cell? a = some v) : (w.alloc o).cell? a = some v := by
  have hlt := World.block_lt_of_cell? w a h
  rw [World.cell?_alloc_lt _ _ _ hlt]; exact h
theorem free_past {w : World} (o : Obj) {a : Addr} (hlt : a.block < w.heap.size) (h : w.frozen? a = false) : (w.alloc o).frozen? a = false := by
  rw [World.frozen?_of_block (w := w) (Below.heap_alloc w o a.block hlt)]; exact h
theorem below_alloc {B : Nat} {a w : World} (h : Below B a w) (hB : B ≤ a.heap.size) (o : Obj) : Below B a (w.alloc o) := h.alloc (Nat.le_trans hB h.size) o

theorem cell_of_heap {w : World} {g x : Nat} {cur : Array Value} {t : TypeId} (h : w.heap[g]? = some (.cells cur t (0, 0))) : w.cell? ⟨g, x, none⟩ = cur[x]? := by
  simp [World.cell?, h]
theorem free_of_heap {w : World} {g x : Nat} {cur : Array Value} {t : TypeId} (h : w.heap[g]? = some (.cells cur t (0, 0))) : w.frozen? ⟨g, x, none⟩ = false := by
  simp [World.frozen?, h]
theorem heap_set {w : World} {g x : Nat} {cur : Array Value} {t : TypeId} (h : w.heap[g]? = some (.cells cur t (0, 0))) (v : Value) : (w.setCell ⟨g, x, none⟩ v).heap[g]? = some (.cells (cur.setIfInBounds x v) t (0, 0)) := by
  simp [World.setCell, Array.getElem?_modify, h]

theorem cells_new (w : World) (c : Array Value) (t : TypeId) (j : Nat) (u : Value) (h : c.toList[j]? = some u) : (w.alloc (.cells c t)).cell? ((⟨w.heap.size, 0, none⟩ : Addr).add j) = some u := by
  rw [Addr.add_lit]
  exact cell_new _ _ _ _ _ _ rfl (by simpa using h)

theorem results_cell_tmp {P : Program} {fn : Func} {p q : Tmp} {ty : TypeId} (h : fn.results = #[.cell p ty, .tmp q]) (tmps : Array Value) (w : World) (g : Nat) (t : TypeId) (cs : Array Value) (d : TypeDesc)
    (hp : tmps.getD p undef = .pointer (some ⟨g, 0, none⟩)) (hg : w.heap[g]? = some (.cells cs t (0, 0)))
    (hu : P.underlying ty = some d) (hd : (match d with | .struct _ | .array _ _ => true | _ => false) = true) (hi : (P.info? ty).map (·.size) = some cs.size) :
    (results fn tmps).run P w = .ok (.tuple #[.agg cs, tmps.getD q undef]) w := by
  have hp' : tmps[p]?.getD undef = .pointer (some ⟨g, 0, none⟩) := by simpa using hp
  simp [results, h, hp', asAddr, run_loadVar_row w g t ty cs (0, 0) d hg hu hd hi]

theorem setRow_alloc (w : World) (old new : Array Value) (t : TypeId) (g : Nat) (h : g = w.heap.size) : (w.alloc (.cells old t)).setRow g new = w.alloc (.cells new t) := by
  subst h
  unfold World.setRow World.alloc
  congr 1
  apply Array.ext_getElem?
  intro i
  rw [Array.getElem?_modify, Array.getElem?_push, Array.getElem?_push]
  by_cases h : w.heap.size = i
  · subst h; simp
  · rw [if_neg h, if_neg (by omega), if_neg (by omega)]

theorem heap_at (w : World) (o : Obj) {g : Nat} (h : g = w.heap.size) : (w.alloc o).heap[g]? = some o := by subst h; exact heap_alloc_new w o

theorem heap_at1 (w : World) (o1 o2 : Obj) : ((w.alloc o1).alloc o2).heap[w.heap.size + 1]? = some o2 := heap_at _ _ (by simp)
theorem setRow_alloc1 (w : World) (o : Obj) (old new : Array Value) (t : TypeId) : ((w.alloc o).alloc (.cells old t)).setRow (w.heap.size + 1) new = (w.alloc o).alloc (.cells new t) := setRow_alloc _ _ _ _ _ (by simp)

theorem below_two_row (B : Nat) (a w : World) (o1 o2 : Obj) (g : Nat) (new : Array Value) (h : Below B a w) (hg : B ≤ g) (hB : B ≤ a.heap.size) : Below B a (((w.alloc o1).alloc o2).setRow g new) := by
  refine (below_alloc (below_alloc h hB _) hB _).trans ⟨rfl, rfl, rfl, by simp, fun k hk => setRow_other _ _ _ _ (by omega)⟩

theorem below_cell_row (B : Nat) (a w : World) (p : Addr) (u : Value) (g : Nat) (new : Array Value) (h : Below B a w) (hp : B ≤ p.block) (hg : B ≤ g) : Below B a ((w.setCell p u).setRow g new) :=
  (h.setCell hp u).trans ⟨rfl, rfl, rfl, by simp, fun _ hk => setRow_other _ _ _ _ (by omega)⟩
theorem below_cell2_row (B : Nat) (a w : World) (p q : Addr) (u v : Value) (g : Nat) (new : Array Value) (h : Below B a w) (hp : B ≤ p.block) (hq : B ≤ q.block) (hg : B ≤ g) : Below B a (((w.setCell p u).setCell q v).setRow g new) :=
  ((h.setCell hp u).setCell hq v).trans ⟨rfl, rfl, rfl, by simp, fun _ hk => setRow_other _ _ _ _ (by omega)⟩

theorem find_first {α : Type} {p : α → Bool} : ∀ (l : List α) (i : Nat) (u : α), l[i]? = some u → p u = true → (∀ (j : Nat) (x : α), j < i → l[j]? = some x → p x = false) → l.find? p = some u
  | [], _, _, h, _, _ => by cases h
  | x :: l, 0, u, h, hp, _ => by simp at h; subst h; simp [hp]
  | x :: l, i + 1, u, h, hp, hb => by
    have hx := hb 0 x (by omega) rfl
    simp only [List.find?_cons, hx]
    exact find_first l i u (by simpa using h) hp (fun j y hj hy => hb (j + 1) y (by omega) (by simpa using hy))
theorem find_none {α : Type} {p : α → Bool} (l : List α) (hb : ∀ (j : Nat) (x : α), l[j]? = some x → p x = false) : l.find? p = none := by
  rw [List.find?_eq_none]
  intro x hx
  obtain ⟨j, hj⟩ := List.getElem?_of_mem hx
  simp [hb j x hj]
theorem below_one_row (B : Nat) (a w : World) (g : Nat) (new : Array Value) (h : Below B a w) (hg : B ≤ g) : Below B a (w.setRow g new) :=
  h.trans ⟨rfl, rfl, rfl, by simp, fun _ hk => setRow_other _ _ _ _ (by omega)⟩

/-- a number fits an int -/
def IntOK (n : Int) : Prop := -9223372036854775808 ≤ n ∧ n ≤ 9223372036854775807

end Go.Proofs.YtajmkkjlhmeolaaGreatDoor

/-
  PLAIN: decimal numerals: what digits tell; the numeral of what they tell is they.
-/
namespace Go.Proofs.YtajmkkjlhmeolaaGreatDoor
open Go.Lib

/-- what digits tell, behind what others told -/
def digs : Nat → List UInt8 → Option Nat
  | acc, [] => some acc
  | acc, c :: r => if 48 ≤ c.toNat ∧ c.toNat ≤ 57 then digs (10 * acc + (c.toNat - 48)) r else none
/-- a number of at most sixteen digits, without a nought ahead; below 0: it is none -/
def valueL (l : List UInt8) : Int :=
  if l = [] ∨ 16 < l.length ∨ (1 < l.length ∧ l.head? = some 48) then -1 else match digs 0 l with | none => -1 | some n => n

theorem digs_append : ∀ (l r : List UInt8) (acc : Nat), digs acc (l ++ r) = (digs acc l).bind fun a => digs a r
  | [], r, acc => by simp [digs]
  | c :: l, r, acc => by
    simp only [List.cons_append, digs]
    split
    · exact digs_append l r _
    · rfl
theorem digs_snoc {l : List UInt8} {c : UInt8} {acc u : Nat} (h : digs acc (l ++ [c]) = some u) : ∃ v, digs acc l = some v ∧ 48 ≤ c.toNat ∧ c.toNat ≤ 57 ∧ u = 10 * v + (c.toNat - 48) := by
  rw [digs_append, Option.bind_eq_some_iff] at h
  obtain ⟨v, h1, h2⟩ := h
  simp only [digs] at h2
  split at h2
  · rename_i hc
    exact ⟨v, h1, hc.1, hc.2, by simpa using h2.symm⟩
  · cases h2
theorem digs_ge : ∀ (l : List UInt8) (acc u : Nat), digs acc l = some u → acc ≤ u
  | [], acc, u, h => by simp [digs] at h; omega
  | c :: l, acc, u, h => by
    simp only [digs] at h
    split at h
    · have := digs_ge l _ u h; omega
    · cases h
theorem ofNat_digit {c : UInt8} (h1 : 48 ≤ c.toNat) : UInt8.ofNat (48 + (c.toNat - 48)) = c := by
  rw [show 48 + (c.toNat - 48) = c.toNat by omega]
  exact UInt8.ofNat_toNat

theorem snoc_of {α : Type} {l : List α} (h : l ≠ []) : ∃ a x, l = a ++ [x] := ⟨l.dropLast, l.getLast h, (List.dropLast_concat_getLast h).symm⟩

/-- digits without a nought ahead are the numeral of what they tell -/
theorem decDigits_digs : ∀ (k : Nat) (l : List UInt8) (u : Nat), l.length = k → l ≠ [] → digs 0 l = some u → (l.length = 1 ∨ l.head? ≠ some 48) → decDigits u = l
  | 0, l, _, hk, hl, _, _ => absurd (List.eq_nil_of_length_eq_zero hk) hl
  | k + 1, l, u, hk, hl, h, hh => by
    obtain ⟨a, c, rfl⟩ := snoc_of hl
    obtain ⟨v, h1, h2, h3, rfl⟩ := digs_snoc h
    by_cases ha : a = []
    · subst ha
      simp [digs] at h1
      subst h1
      rw [decDigits, dif_pos (by omega)]
      simp [ofNat_digit h2]
    · have hh' : a.head? ≠ some 48 := by
        rcases hh with hh | hh
        · simp at hh; exact absurd hh ha
        · rw [List.head?_append] at hh
          cases hx : a.head? with
          | none => simp
          | some y => rw [hx] at hh; simpa using hh
      have hv : 1 ≤ v := by
        cases a with
        | nil => exact absurd rfl ha
        | cons d a =>
          simp only [digs] at h1
          split at h1
          · rename_i hd
            have := digs_ge _ _ _ h1
            have hne : d.toNat ≠ 48 := fun e => hh' (by simp; exact UInt8.toNat_inj.1 e)
            omega
          · cases h1
      have ih := decDigits_digs k a v (by simp at hk; omega) ha h1 (.inr hh')
      rw [decDigits, dif_neg (by omega), show (10 * v + (c.toNat - 48)) / 10 = v by omega, show (10 * v + (c.toNat - 48)) % 10 = c.toNat - 48 by omega, ih, ofNat_digit h2]

theorem toNat_digit {d : Nat} (h : d < 10) : (UInt8.ofNat (48 + d)).toNat = 48 + d := by
  rw [UInt8.toNat_ofNat']; omega
theorem digs_decDigits (u : Nat) : digs 0 (decDigits u) = some u := by
  induction u using Nat.strongRecOn with
  | _ u ih =>
    rw [decDigits]
    by_cases h : u < 10
    · rw [dif_pos h]
      simp only [digs, toNat_digit h]
      rw [if_pos (by omega)]; simp
    · rw [dif_neg h, digs_append, ih (u / 10) (by omega)]
      simp only [Option.bind_some, digs, toNat_digit (show u % 10 < 10 by omega)]
      rw [if_pos (by omega)]
      congr 1; omega
theorem decDigits_ne (u : Nat) : decDigits u ≠ [] := by
  rw [decDigits]; split <;> simp
theorem decDigits_head (u : Nat) : (decDigits u).length = 1 ∨ (decDigits u).head? ≠ some 48 := by
  induction u using Nat.strongRecOn with
  | _ u ih =>
    rw [decDigits]
    by_cases h : u < 10
    · rw [dif_pos h]; exact .inl rfl
    · rw [dif_neg h]
      right
      rcases ih (u / 10) (by omega) with h1 | h1
      · by_cases h2 : u / 10 < 10
        · rw [decDigits, dif_pos h2]
          rw [List.singleton_append, List.head?_cons]
          intro e
          have := congrArg UInt8.toNat (Option.some.inj e)
          rw [toNat_digit h2] at this
          have h48 : (48 : UInt8).toNat = 48 := rfl
          omega
        · exfalso
          rw [decDigits, dif_neg h2] at h1
          have := decDigits_ne (u / 10 / 10)
          simp at h1
          exact this h1
      · rw [List.head?_append]
        cases hx : (decDigits (u / 10)).head? with
        | none => exact absurd (List.head?_eq_none_iff.1 hx) (decDigits_ne _)
        | some y => rw [hx] at h1; simpa using h1

theorem parse_digs : ∀ (l : List UInt8) (acc u : Nat), digs acc l = some u → u < 1844674407370955162 → parseUint10 acc l = .ok u
  | [], acc, u, h, _ => by simp [digs] at h; simp [parseUint10, h]
  | c :: l, acc, u, h, hu => by
    simp only [digs] at h
    simp only [parseUint10]
    split at h
    · rename_i hc
      have := digs_ge _ _ _ h
      rw [if_pos hc, if_neg (by omega), if_neg (by omega), show acc * 10 + (c.toNat - 48) = 10 * acc + (c.toNat - 48) by omega]
      exact parse_digs l _ u h hu
    · cases h

theorem atoi_digs {l : List UInt8} {u : Nat} (hl : l ≠ []) (h : digs 0 l = some u) (hu : u < 1000000) : atoiAll l = .ok (u : Int) := by
  cases l with
  | nil => exact absurd rfl hl
  | cons c r =>
    have hp := parse_digs _ _ _ h (by omega)
    have hc : 48 ≤ c.toNat ∧ c.toNat ≤ 57 := by
      simp only [digs] at h
      split at h
      · assumption
      · cases h
    unfold atoiAll
    simp only
    rw [if_neg (by omega)]
    unfold parseMag
    rw [if_neg (by simp), hp]
    simp only
    rw [if_neg (by omega), if_neg (by omega), if_neg (by omega)]

end Go.Proofs.YtajmkkjlhmeolaaGreatDoor
