/-
  Base 64 read, plain: four letters, one by one.
-/
import Derived.Test.YtgklbmcnpnmkkaaDoorSm25
namespace Go.Proofs.YtgklbmcnpnmkkaaDoor

/-- so many letters of four were read: k of them, m are digits, their number W -/
inductive Chunk (c : List UInt8) (last : Bool) : Nat → Nat → Nat → Prop
  | z : Chunk c last 0 0 0
  | dig {m W d : Nat} (h : Chunk c last m m W) (hm : m < 4) (hd : (c[m]?).bind plc = some d) : Chunk c last (m + 1) (m + 1) (W + d * 2 ^ (18 - 6 * m))
  | pad {k m W : Nat} (h : Chunk c last k m W) (hk : k < 4) (hc : c[k]? = some 61) (hl : last = true) (h2 : 2 ≤ k) : Chunk c last (k + 1) m W
theorem plc_lt {b : UInt8} {d : Nat} (h : plc b = some d) : d < 64 := by
  have : ∀ n : Fin 256, ∀ d, plc (UInt8.ofNat n.val) = some d → d < 64 := by
    intro n
    have h2 : ∀ n : Fin 256, (match plc (UInt8.ofNat n.val) with | some d => decide (d < 64) | none => true) = true := by decide +kernel
    intro d hd
    have := h2 n
    rw [hd] at this
    simpa using this
  have h2 := this ⟨b.toNat, b.toNat_lt⟩ d
  rw [UInt8.ofNat_toNat] at h2
  exact h2 h
theorem Chunk.fits {c : List UInt8} {last : Bool} {k m W : Nat} (h : Chunk c last k m W) : m ≤ k ∧ k ≤ 4 ∧ k ≤ c.length ∧ W % 2 ^ (24 - 6 * m) = 0 ∧ W < 16777216 := by
  induction h with
  | z => exact ⟨by omega, by omega, by omega, by decide, by decide⟩
  | @dig m W d h hm hd ih =>
    obtain ⟨h1, h2, h3, h4, h5⟩ := ih
    cases hc : c[m]? with
    | none => rw [hc] at hd; cases hd
    | some b =>
      rw [hc] at hd
      have hlt := (List.getElem?_eq_some_iff.1 hc).1
      have hd64 := plc_lt (b := b) (d := d) hd
      refine ⟨by omega, by omega, by omega, ?_, ?_⟩
      · rcases (by omega : m = 0 ∨ m = 1 ∨ m = 2 ∨ m = 3) with rfl | rfl | rfl | rfl <;> simp only [Nat.reduceMul, Nat.reduceSub, Nat.reducePow, Nat.reduceAdd] at h4 ⊢ <;> omega
      · rcases (by omega : m = 0 ∨ m = 1 ∨ m = 2 ∨ m = 3) with rfl | rfl | rfl | rfl <;> simp only [Nat.reduceMul, Nat.reduceSub, Nat.reducePow, Nat.reduceAdd] at h4 ⊢ <;> omega
  | @pad k m W h hk hc hl h2 ih =>
    obtain ⟨h1, h2', h3, h4, h5⟩ := ih
    have hlt := (List.getElem?_eq_some_iff.1 hc).1
    exact ⟨by omega, by omega, by omega, h4, h5⟩
def bytes3 (W : Nat) : List UInt8 := [UInt8.ofNat (W / 65536), UInt8.ofNat (W / 256 % 256), UInt8.ofNat (W % 256)]
/-- what was read first, in each case -/
theorem Chunk.one {c : List UInt8} {last : Bool} {m W : Nat} (h : Chunk c last 1 m W) : m = 1 ∧ ∃ a, (c[0]?).bind plc = some a ∧ W = a * 262144 := by
  cases h with
  | dig h hm hd => cases h with | z => exact ⟨rfl, _, hd, by omega⟩
  | pad _ _ _ _ h2 => omega
theorem Chunk.two {c : List UInt8} {last : Bool} {m W : Nat} (h : Chunk c last 2 m W) : m = 2 ∧ ∃ a b, (c[0]?).bind plc = some a ∧ (c[1]?).bind plc = some b ∧ W = a * 262144 + b * 4096 := by
  cases h with
  | dig h hm hd => obtain ⟨_, a, h1, rfl⟩ := h.one; exact ⟨rfl, a, _, h1, hd, by omega⟩
  | pad _ _ _ _ h2 => omega
theorem Chunk.three {c : List UInt8} {last : Bool} {m W : Nat} (h : Chunk c last 3 m W) : ∃ a b, (c[0]?).bind plc = some a ∧ (c[1]?).bind plc = some b ∧ ((m = 3 ∧ ∃ d, (c[2]?).bind plc = some d ∧ W = a * 262144 + b * 4096 + d * 64) ∨ (m = 2 ∧ c[2]? = some 61 ∧ last = true ∧ W = a * 262144 + b * 4096)) := by
  cases h with
  | dig h hm hd => obtain ⟨_, a, b, h1, h2, rfl⟩ := h.two; exact ⟨a, b, h1, h2, .inl ⟨rfl, _, hd, by omega⟩⟩
  | pad h _ hc hl h2 => obtain ⟨rfl, a, b, h1, h2, rfl⟩ := h.two; exact ⟨a, b, h1, h2, .inr ⟨rfl, hc, hl, rfl⟩⟩
theorem dec64_short {c : List UInt8} (h0 : c ≠ []) (h : c.length < 4) : dec64 c = none := by
  match c, h0, h with
  | [], h0, _ => exact absurd rfl h0
  | [_], _, _ => rfl
  | [_, _], _, _ => rfl
  | [_, _, _], _, _ => rfl
  | _ :: _ :: _ :: _ :: _, _, h => simp at h; omega
/-- a letter that may not be there -/
theorem chunk_err {c : List UInt8} {last : Bool} {k m W : Nat} (h : Chunk c last k m W) (hk : k < 4) (h0 : c ≠ []) (hl : last = decide (c.length ≤ 4))
    (he : c.length = k ∨ ∃ b, c[k]? = some b ∧ (((plc b).isSome = true ∧ m ≠ k) ∨ (plc b = none ∧ ¬ (b = 61 ∧ last = true ∧ 2 ≤ k)))) : dec64 c = none := by
  rcases he with he | ⟨b, hb, he⟩
  · exact dec64_short h0 (by omega)
  by_cases hlen : c.length < 4
  · exact dec64_short h0 hlen
  match c, hlen with
  | [], hn => exact absurd (by simp) hn
  | [_], hn => exact absurd (by simp) hn
  | [_, _], hn => exact absurd (by simp) hn
  | [_, _, _], hn => exact absurd (by simp) hn
  | x :: y :: z :: t :: l, _ =>
    have hll : l.isEmpty = last := by
      rw [hl]
      cases l with
      | nil => rfl
      | cons a l => simp
    have hdec : dec4 last x y z t = none := by
      rcases (by omega : k = 0 ∨ k = 1 ∨ k = 2 ∨ k = 3) with rfl | rfl | rfl | rfl
      · cases h
        simp at hb
        subst hb
        rcases he with ⟨_, h2⟩ | ⟨h1, _⟩
        · exact absurd rfl h2
        · unfold dec4; rw [h1]
      · obtain ⟨rfl, a, h1, _⟩ := h.one
        simp at hb h1
        subst hb
        rcases he with ⟨_, h2⟩ | ⟨h2, _⟩
        · exact absurd rfl h2
        · unfold dec4; rw [h1, h2]
      · obtain ⟨rfl, a, b', h1, h2, _⟩ := h.two
        simp at hb h1 h2
        subst hb
        rcases he with ⟨_, h3⟩ | ⟨h3, h4⟩
        · exact absurd rfl h3
        · unfold dec4
          rw [h1, h2, h3]
          simp only
          rw [if_neg]
          intro h5
          simp only [Bool.and_eq_true, beq_iff_eq] at h5
          exact h4 ⟨h5.1.1.2, h5.1.1.1, by omega⟩
      · obtain ⟨a, b', h1, h2, h3⟩ := h.three
        simp at hb h1 h2
        subst hb
        unfold dec4
        rcases h3 with ⟨rfl, d, h3, _⟩ | ⟨rfl, h3, h4, _⟩
        · simp at h3
          rcases he with ⟨_, h5⟩ | ⟨h5, h6⟩
          · exact absurd rfl h5
          · rw [h1, h2, h3, h5]
            simp only
            rw [if_neg]
            intro h7
            simp only [Bool.and_eq_true, beq_iff_eq] at h7
            exact h6 ⟨h7.1.2, h7.1.1, by omega⟩
        · simp at h3
          subst h3
          rw [h1, h2, plc_eq61]
          simp only
          rw [if_neg]
          intro h7
          simp only [Bool.and_eq_true, beq_iff_eq] at h7
          have ht : t = 61 := h7.1.2
          rcases he with ⟨h5, _⟩ | ⟨_, h6⟩
          · rw [ht, plc_eq61] at h5; cases h5
          · exact h6 ⟨ht, h4, by omega⟩
    simp only [dec64, hll, hdec]
/-- four letters that are all there -/
theorem chunk_ok {x y z t : UInt8} {l : List UInt8} {last : Bool} {m W : Nat} (h : Chunk (x :: y :: z :: t :: l) last 4 m W) :
    (2 ≤ m ∧ m ≤ 4) ∧ dec4 last x y z t = if W * 2 ^ (8 * (m - 1)) % 16777216 = 0 then some ((bytes3 W).take (m - 1)) else none := by
  cases h with
  | dig h hm hd =>
    obtain ⟨a, b, h1, h2, h3⟩ := h.three
    rcases h3 with ⟨_, d, h3, rfl⟩ | ⟨h3, _⟩
    · simp at h1 h2 h3 hd
      have l1 := plc_lt h1; have l2 := plc_lt h2; have l3 := plc_lt h3; have l4 := plc_lt hd
      refine ⟨by omega, ?_⟩
      unfold dec4
      rw [h1, h2, h3, hd]
      simp only
      rw [if_pos (by omega)]
      simp [bytes3]
    · omega
  | pad h hk hc hl h2 =>
    obtain ⟨a, b, h1, h2, h3⟩ := h.three
    simp at hc
    subst hc hl
    rcases h3 with ⟨rfl, d, h3, rfl⟩ | ⟨rfl, h3, _, rfl⟩
    · simp at h1 h2 h3
      have l1 := plc_lt h1; have l2 := plc_lt h2; have l3 := plc_lt h3
      refine ⟨by omega, ?_⟩
      unfold dec4
      rw [h1, h2, h3, plc_eq61]
      simp only [Bool.true_and, BEq.rfl]
      by_cases hd : d % 4 = 0
      · rw [if_pos (by simpa using hd), if_pos (by omega)]
        simp [bytes3]
      · rw [if_neg (by simpa using hd), if_neg (by omega)]
    · simp at h1 h2 h3
      subst h3
      have l1 := plc_lt h1; have l2 := plc_lt h2
      refine ⟨by omega, ?_⟩
      unfold dec4
      rw [h1, h2, plc_eq61]
      simp only [Bool.true_and, BEq.rfl]
      by_cases hd : b % 16 = 0
      · rw [if_pos (by simpa using hd), if_pos (by omega)]
        simp [bytes3]
      · rw [if_neg (by simpa using hd), if_neg (by omega)]
end Go.Proofs.YtgklbmcnpnmkkaaDoor
