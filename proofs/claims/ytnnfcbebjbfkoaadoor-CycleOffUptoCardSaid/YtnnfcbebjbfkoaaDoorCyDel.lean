/-
  slices.DeleteFunc at rules, over Due's first closure, on a clone of the call's own.
-/
import Derived.Test.YtnnfcbebjbfkoaaDoorCyDue
import Derived.Deep.LoopGhost
namespace Go.Proofs.YtnnfcbebjbfkoaaDoor
open Go.RowKit

/-- cells hold the rule r from x on -/
def HasRule (cur : Array Value) (x : Nat) (r : RuleV) : Prop := ∀ c, c < 6 → cur[x + c]? = r.cells[c]?

structure DelInv (zs : List RuleV) (p : RuleV → Bool) (cap j i : Nat) (cur : Array Value) : Prop where
  size : cur.size = cap * 6
  len : i = ((zs.take j).filter p).length
  low : ∀ a r, ((zs.take j).filter p)[a]? = some r → HasRule cur (a * 6) r
  high : ∀ a r, j ≤ a → zs[a]? = some r → HasRule cur (a * 6) r

theorem HasRule.cells {cur : Array Value} {x : Nat} {r : RuleV} (h : HasRule cur x r) : cur[x]? = some (.string r.id) ∧ cur[x + 1]? = some (.string r.pre) ∧ cur[x + 2]? = some (.bool r.on) ∧ cur[x + 3]? = some (.int .i64 r.days) ∧ cur[x + 4]? = some (.int .i64 r.nonc) ∧ cur[x + 5]? = some (.int .i64 r.abort) :=
  ⟨h 0 (by omega), h 1 (by omega), h 2 (by omega), h 3 (by omega), h 4 (by omega), h 5 (by omega)⟩

/-- six stores -/
def set6 (cur : Array Value) (x : Nat) (r : RuleV) : Array Value :=
  (((((cur.setIfInBounds x (.string r.id)).setIfInBounds (x + 1) (.string r.pre)).setIfInBounds (x + 2) (.bool r.on)).setIfInBounds (x + 3) (.int .i64 r.days)).setIfInBounds (x + 4) (.int .i64 r.nonc)).setIfInBounds (x + 5) (.int .i64 r.abort)
theorem set6_size (cur : Array Value) (x : Nat) (r : RuleV) : (set6 cur x r).size = cur.size := by simp [set6]
theorem set6_other (cur : Array Value) (x y : Nat) (r : RuleV) (h : y < x ∨ x + 6 ≤ y) : (set6 cur x r)[y]? = cur[y]? := by
  simp only [set6, Array.getElem?_setIfInBounds]
  repeat rw [if_neg (by omega)]
theorem set6_has (cur : Array Value) (x : Nat) (r : RuleV) (h : x + 6 ≤ cur.size) : HasRule (set6 cur x r) x r := by
  intro c hc
  have : c = 0 ∨ c = 1 ∨ c = 2 ∨ c = 3 ∨ c = 4 ∨ c = 5 := by omega
  rcases this with rfl | rfl | rfl | rfl | rfl | rfl <;> simp [set6, Array.getElem?_setIfInBounds, RuleV.cells] <;> omega

theorem take_filter_succ (zs : List RuleV) (p : RuleV → Bool) (j : Nat) (h : j < zs.length) : (zs.take (j + 1)).filter p = (zs.take j).filter p ++ if p zs[j] then [zs[j]] else [] := by
  rw [List.take_succ_eq_append_getElem h, List.filter_append]
  cases hp : p zs[j] <;> simp [hp]

theorem DelInv.le {zs : List RuleV} {p : RuleV → Bool} {cap j i : Nat} {cur : Array Value} (h : DelInv zs p cap j i cur) : i ≤ j := by
  rw [h.len]; exact Nat.le_trans (List.length_filter_le _ _) (List.length_take_le _ _)

theorem DelInv.keep {zs : List RuleV} {p : RuleV → Bool} {cap j i : Nat} {cur : Array Value} (h : DelInv zs p cap j i cur) (hj : j < zs.length) (hc : zs.length ≤ cap) (hp : p zs[j] = true) :
    DelInv zs p cap (j + 1) (i + 1) (set6 cur (i * 6) zs[j]) := by
  have hij := h.le
  have e := take_filter_succ zs p j hj
  rw [hp] at e
  simp only [if_true] at e
  refine ⟨by rw [set6_size, h.size], by rw [e, List.length_append, ← h.len]; rfl, fun a r ha => ?_, fun a r hja ha => ?_⟩
  · rw [e] at ha
    by_cases hai : a < i
    · rw [List.getElem?_append_left (by rw [← h.len]; exact hai)] at ha
      have := h.low a r ha
      intro c hc'
      rw [set6_other _ _ _ _ (by omega)]; exact this c hc'
    · have hai' : a = i := by
        have := (List.getElem?_eq_some_iff.1 ha).1
        rw [List.length_append, ← h.len] at this
        simp at this; omega
      subst hai'
      rw [List.getElem?_append_right (by rw [← h.len]; exact Nat.le_refl _), ← h.len] at ha
      simp at ha
      subst ha
      exact set6_has _ _ _ (by rw [h.size]; have := Nat.mul_le_mul_right 6 (show a + 1 ≤ cap by omega); omega)
  · have := h.high a r (by omega) ha
    intro c hc'
    rw [set6_other _ _ _ _ (by have := Nat.mul_le_mul_right 6 (show i + 1 ≤ a by omega); omega)]; exact this c hc'

theorem DelInv.drop {zs : List RuleV} {p : RuleV → Bool} {cap j i : Nat} {cur : Array Value} (h : DelInv zs p cap j i cur) (hj : j < zs.length) (hp : p zs[j] = false) :
    DelInv zs p cap (j + 1) i cur := by
  have e := take_filter_succ zs p j hj
  rw [hp] at e
  simp only [Bool.false_eq_true, if_false, List.append_nil] at e
  exact ⟨h.size, by rw [e]; exact h.len, fun a r ha => by rw [e] at ha; exact h.low a r ha, fun a r hja ha => h.high a r (by omega) ha⟩


theorem idx_cases (q : RuleV → Bool) [Inhabited RuleV] : ∀ (l : List RuleV) (i : Nat),
    (Lib.idxByFrom (fun _ y => !q y) default l i = -1 ∧ ∀ y ∈ l, q y = true) ∨
    ∃ k, k < l.length ∧ Lib.idxByFrom (fun _ y => !q y) default l i = ((i + k : Nat) : Int) ∧ (∀ y ∈ l.take k, q y = true) ∧ ∃ y, l[k]? = some y ∧ q y = false
  | [], _ => .inl ⟨rfl, by simp⟩
  | y :: l, i => by
    cases h : q y with
    | false => exact .inr ⟨0, by simp, by simp [Lib.idxByFrom, h], by simp, y, by simp, h⟩
    | true =>
      rcases idx_cases q l (i + 1) with ⟨e, ha⟩ | ⟨k, hk, e, ha, z, hz, hq⟩
      · exact .inl ⟨by simp [Lib.idxByFrom, h, e], by simpa [h] using ha⟩
      · refine .inr ⟨k + 1, by simpa using hk, ?_, by simpa [h] using ha, z, by simpa using hz, hq⟩
        simp only [Lib.idxByFrom, h, Bool.not_true, Bool.false_eq_true, if_false, e]
        congr 1; omega

theorem DelInv.start {zs : List RuleV} {q : RuleV → Bool} {cap k : Nat} {cur : Array Value} (hs : cur.size = cap * 6) (hr : ∀ a r, zs[a]? = some r → HasRule cur (a * 6) r)
    (hk : k < zs.length) (ha : ∀ y ∈ zs.take k, q y = true) (y : RuleV) (hy : zs[k]? = some y) (hq : q y = false) : DelInv zs q cap (k + 1) k cur := by
  have e : (zs.take (k + 1)).filter q = zs.take k := by
    rw [take_filter_succ zs q k hk]
    have : zs[k] = y := by rw [List.getElem?_eq_getElem hk] at hy; exact Option.some.inj hy
    rw [this, hq, List.filter_eq_self.2 ha]; simp
  refine ⟨hs, by rw [e]; simp; omega, fun a r h => ?_, fun a r _ h => hr a r h⟩
  rw [e, List.getElem?_take] at h
  split at h
  · exact hr a r h
  · cases h

instance : Inhabited RuleV := ⟨⟨ByteArray.empty, ByteArray.empty, false, 0, 0, 0⟩⟩

theorem isAgg_rule (w : World) : (isAgg 34).run Tryd.prog w = .ok true w := Tryd.isAgg34 w
theorem sizeOf_rule (w : World) : (Go.sizeOf 34).run Tryd.prog w = .ok 6 w := Tryd.sizeOf34 w

end Go.Proofs.YtnnfcbebjbfkoaaDoor
