/-
  PLAIN: numbers as sixteen sixteenths: what is told is read, and nothing else.
-/
import Derived.Test.YtgklbmcnpnmkkaaDoorLsHexRd
import Derived.Test.YtgklbmcnpnmkkaaDoorSm30
import Derived.Test.YtgklbmcnpnmkkaaDoorNumP
namespace Go.Proofs.YtgklbmcnpnmkkaaDoor

def hexLow (c : UInt8) : Bool := decide ((48 ≤ c.toNat ∧ c.toNat ≤ 57) ∨ (97 ≤ c.toNat ∧ c.toNat ≤ 102))
def hexVal (l : List UInt8) : Int := l.foldl (fun a c => a * 16 + hxd c) 0

theorem low_of : ∀ (n : Nat), n < 256 → ((48 ≤ n ∧ n ≤ 57) ∨ (97 ≤ n ∧ n ≤ 102)) → hxd (UInt8.ofNat n) = (if n ≤ 57 then (n : Int) - 48 else (n : Int) - 87) := by
  intro n hn h
  have e : (UInt8.ofNat n).toNat = n := by rw [UInt8.toNat_ofNat']; omega
  unfold hxd
  rw [e]
  rcases h with h | h
  · rw [if_pos (by omega), if_pos (by omega)]
  · have b1 : bits .or .u8 97 32 = 97 := by kernel_rfl
    have b2 : bits .or .u8 98 32 = 98 := by kernel_rfl
    have b3 : bits .or .u8 99 32 = 99 := by kernel_rfl
    have b4 : bits .or .u8 100 32 = 100 := by kernel_rfl
    have b5 : bits .or .u8 101 32 = 101 := by kernel_rfl
    have b6 : bits .or .u8 102 32 = 102 := by kernel_rfl
    have hb : bits .or .u8 (n : Int) 32 = (n : Int) := by
      have : n = 97 ∨ n = 98 ∨ n = 99 ∨ n = 100 ∨ n = 101 ∨ n = 102 := by omega
      rcases this with rfl | rfl | rfl | rfl | rfl | rfl
      · exact b1
      · exact b2
      · exact b3
      · exact b4
      · exact b5
      · exact b6
    rw [if_neg (by omega), hb, if_pos (by omega), if_neg (by omega)]
    omega
theorem hxd_low {c : UInt8} (h : hexLow c = true) : hxd c = (if c.toNat ≤ 57 then (c.toNat : Int) - 48 else (c.toNat : Int) - 87) := by
  have h' := of_decide_eq_true h
  have := low_of c.toNat c.toNat_lt h'
  rwa [UInt8.ofNat_toNat] at this
theorem hxd_lt {c : UInt8} (h : hexLow c = true) : 0 ≤ hxd c ∧ hxd c < 16 := by
  have h' := of_decide_eq_true h
  rw [hxd_low h]
  split <;> omega
theorem hxd_inj {c d : UInt8} (hc : hexLow c = true) (hd : hexLow d = true) (h : hxd c = hxd d) : c = d := by
  have h1 := of_decide_eq_true hc
  have h2 := of_decide_eq_true hd
  rw [hxd_low hc, hxd_low hd] at h
  apply UInt8.toNat_inj.1
  split at h <;> split at h <;> omega
theorem hexVal_snoc (l : List UInt8) (c : UInt8) : hexVal (l ++ [c]) = hexVal l * 16 + hxd c := by simp [hexVal]
theorem hexVal_nonneg (l : List UInt8) : 0 ≤ hexVal l := by
  have : ∀ (l : List UInt8) (a : Int), 0 ≤ a → 0 ≤ l.foldl (fun a c => a * 16 + hxd c) a := by
    intro l
    induction l with
    | nil => intro a h; exact h
    | cons c l ih => intro a h; have := hxd_nonneg c; exact ih _ (by show 0 ≤ a * 16 + hxd c; omega)
  exact this l 0 (by omega)
theorem hexVal_lt : ∀ (k : Nat) (l : List UInt8), l.length = k → (∀ c ∈ l, hexLow c = true) → hexVal l < 16 ^ k
  | 0, l, hl, _ => by rw [List.eq_nil_of_length_eq_zero hl]; decide
  | k + 1, l, hl, h => by
    obtain ⟨a, c, rfl⟩ := snoc_of (l := l) (fun e => by subst e; simp at hl)
    have ih := hexVal_lt k a (by simp at hl; omega) (fun c hc => h c (by simp [hc]))
    have := hxd_lt (h c (by simp))
    rw [hexVal_snoc, Int.pow_succ]
    omega
theorem hexVal_inj : ∀ (k : Nat) (l m : List UInt8), l.length = k → m.length = k → (∀ c ∈ l, hexLow c = true) → (∀ c ∈ m, hexLow c = true) → hexVal l = hexVal m → l = m
  | 0, l, m, hl, hm, _, _, _ => by rw [List.eq_nil_of_length_eq_zero hl, List.eq_nil_of_length_eq_zero hm]
  | k + 1, l, m, hl, hm, h1, h2, h => by
    obtain ⟨a, c, rfl⟩ := snoc_of (l := l) (fun e => by subst e; simp at hl)
    obtain ⟨b, d, rfl⟩ := snoc_of (l := m) (fun e => by subst e; simp at hm)
    rw [hexVal_snoc, hexVal_snoc] at h
    have hc := hxd_lt (h1 c (by simp))
    have hd := hxd_lt (h2 d (by simp))
    have e1 : hxd c = hxd d := by omega
    have e2 : hexVal a = hexVal b := by omega
    rw [hexVal_inj k a b (by simp at hl; omega) (by simp at hm; omega) (fun c hc => h1 c (by simp [hc])) (fun c hc => h2 c (by simp [hc])) e2, hxd_inj (h1 c (by simp)) (h2 d (by simp)) e1]
theorem pu16_val (s : List UInt8) (hs : s.length ≤ 16) (hl : ∀ c ∈ s, hexLow c = true) : pu16 0 s = some (hexVal s) := by
  have key : ∀ (r p : List UInt8), p.length + r.length ≤ 16 → (∀ c ∈ p, hexLow c = true) → (∀ c ∈ r, hexLow c = true) → pu16 (hexVal p) r = some (hexVal (p ++ r)) := by
    intro r
    induction r with
    | nil => intro p _ _ _; simp [pu16]
    | cons c r ih =>
      intro p hlen hp hr
      have hc := hxd_lt (hr c (by simp))
      have hv := hexVal_lt p.length p rfl hp
      have hv2 : (16 : Int) ^ p.length ≤ 16 ^ 15 := by
        have : p.length ≤ 15 := by simp at hlen; omega
        exact_mod_cast Nat.pow_le_pow_right (by decide) this
      simp only [pu16]
      rw [if_neg (by omega), if_neg (by
        have : (16 : Int) ^ 15 = 1152921504606846976 := by decide
        omega), ← hexVal_snoc, ih (p ++ [c]) (by simp at hlen ⊢; omega) (fun x hx => by
          simp at hx; rcases hx with hx | rfl
          · exact hp x hx
          · exact hr _ (by simp)) (fun x hx => hr x (by simp [hx]))]
      simp
  have := key s [] (by simpa using hs) (by simp) hl
  simpa [hexVal] using this

theorem hexD_low : ∀ d : Nat, d < 16 → hexLow (hexD d) = true ∧ hxd (hexD d) = (d : Int) := by
  intro d hd
  unfold hexD
  by_cases h : d < 10
  · rw [if_pos h]
    have e : ((48 + d).toUInt8).toNat = 48 + d := by rw [Nat.toUInt8, UInt8.toNat_ofNat']; omega
    have hlow : hexLow (48 + d).toUInt8 = true := by unfold hexLow; rw [e]; exact decide_eq_true (by omega)
    refine ⟨hlow, ?_⟩
    rw [hxd_low hlow, e, if_pos (by omega)]; omega
  · rw [if_neg h]
    have e : ((87 + d).toUInt8).toNat = 87 + d := by rw [Nat.toUInt8, UInt8.toNat_ofNat']; omega
    have hlow : hexLow (87 + d).toUInt8 = true := by unfold hexLow; rw [e]; exact decide_eq_true (by omega)
    refine ⟨hlow, ?_⟩
    rw [hxd_low hlow, e, if_neg (by omega)]; omega
theorem hexL_val (n : Nat) : (∀ c ∈ hexL n, hexLow c = true) ∧ hexVal (hexL n) = (n : Int) := by
  induction n using Nat.strongRecOn with
  | _ n ih =>
    by_cases h : n < 16
    · rw [hexL_small h]
      obtain ⟨h1, h2⟩ := hexD_low n h
      exact ⟨by simpa using h1, by simp [hexVal, h2]⟩
    · rw [hexL_big (by omega)]
      obtain ⟨h1, h2⟩ := ih (n / 16) (by omega)
      obtain ⟨h3, h4⟩ := hexD_low (n % 16) (by omega)
      refine ⟨fun c hc => ?_, ?_⟩
      · simp at hc
        rcases hc with hc | rfl
        · exact h1 c hc
        · exact h3
      · rw [hexVal_snoc, h2, h4]; omega
theorem hexVal_zeros (k : Nat) (l : List UInt8) : hexVal (List.replicate k 48 ++ l) = hexVal l := by
  induction k with
  | zero => rfl
  | succ k ih =>
    have h48 : hxd 48 = 0 := by
      have := hxd_low (c := 48) (by decide)
      rw [this]; rfl
    have : ∀ (l : List UInt8), hexVal (48 :: l) = hexVal l := fun l => by simp [hexVal, h48]
    rw [List.replicate_succ, List.cons_append, this, ih]

theorem numText_in {n : Int} (h : 0 ≤ n ∧ n ≤ 9007199254740991) : (numText n).length = 16 ∧ (∀ c ∈ numText n, hexLow c = true) ∧ hexVal (numText n) = n := by
  obtain ⟨m, rfl⟩ := Int.eq_ofNat_of_zero_le h.1
  have hl := hexL_length m 13 (by have := h.2; omega)
  obtain ⟨h1, h2⟩ := hexL_val m
  unfold numText
  rw [if_pos h]
  simp only [Int.toNat_natCast]
  refine ⟨by simp; omega, fun c hc => ?_, by rw [hexVal_zeros, h2]⟩
  rw [List.mem_append, List.mem_replicate] at hc
  rcases hc with ⟨_, rfl⟩ | hc
  · decide
  · exact h1 c hc
theorem numText_out {n : Int} (h : ¬ (0 ≤ n ∧ n ≤ 9007199254740991)) : numText n = [] := by unfold numText; rw [if_neg h]

/-- the number of which a text is what is told -/
def readNum (s : List UInt8) : Option Int := if s.length = 16 ∧ s.all hexLow = true ∧ hexVal s ≤ 9007199254740991 then some (hexVal s) else none
theorem readNum_text {n : Int} (h : 0 ≤ n ∧ n ≤ 9007199254740991) : readNum (numText n) = some n := by
  obtain ⟨h1, h2, h3⟩ := numText_in h
  unfold readNum
  rw [if_pos ⟨h1, List.all_eq_true.2 h2, by rw [h3]; exact h.2⟩, h3]
theorem readNum_some {s : List UInt8} {n : Int} (h : readNum s = some n) : (0 ≤ n ∧ n ≤ 9007199254740991) ∧ s = numText n := by
  unfold readNum at h
  split at h
  · rename_i hh
    obtain ⟨h1, h2, h3⟩ := hh
    obtain rfl := Option.some.inj h
    have hr : 0 ≤ hexVal s ∧ hexVal s ≤ 9007199254740991 := ⟨hexVal_nonneg _, h3⟩
    obtain ⟨k1, k2, k3⟩ := numText_in hr
    exact ⟨hr, hexVal_inj 16 _ _ h1 k1 (List.all_eq_true.1 h2) k2 k3.symm⟩
  · cases h
theorem numText_inj {a b : Int} (ha : 0 ≤ a ∧ a ≤ 9007199254740991) (h : numText a = numText b) : a = b := by
  have h1 := readNum_text ha
  rw [h] at h1
  by_cases hb : 0 ≤ b ∧ b ≤ 9007199254740991
  · rw [readNum_text hb] at h1
    exact (Option.some.inj h1).symm
  · rw [numText_out hb] at h1; simp [readNum] at h1

end Go.Proofs.YtgklbmcnpnmkkaaDoor
