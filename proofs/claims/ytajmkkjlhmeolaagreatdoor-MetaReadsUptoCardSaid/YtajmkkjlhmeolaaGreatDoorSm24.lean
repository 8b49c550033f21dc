/-
  SEVERAL SMALL TEXTS IN ONE.
-/
import Derived.Test.YtajmkkjlhmeolaaGreatDoorSm18
import Derived.Test.YtajmkkjlhmeolaaGreatDoorSm9
import Derived.Handy
import Derived.PlainAid
import Derived.StillTailTactics
import Derived.Deep.LoopGhost
/-
  MetaNumbers: the law.
-/
namespace Go.Proofs.YtajmkkjlhmeolaaGreatDoor
open Go.RowKit Go.Lib

theorem numText_out' {n : Int} (h : ¬ (0 ≤ n ∧ n ≤ 9007199254740991)) : numText n = [] := by unfold numText; rw [if_neg h]

theorem hexVal_cons (c : UInt8) (l : List UInt8) : hexVal (c :: l) = hxd c * 16 ^ l.length + hexVal l := by
  have key : ∀ (l : List UInt8) (A : Int), l.foldl (fun a c => a * 16 + hxd c) A = A * 16 ^ l.length + hexVal l := by
    intro l
    induction l with
    | nil => intro A; simp [hexVal]
    | cons c l ih =>
      intro A
      have e : hexVal (c :: l) = (0 * 16 + hxd c) * 16 ^ l.length + hexVal l := ih _
      rw [List.foldl_cons, ih, e, List.length_cons, Int.pow_succ, Int.zero_mul, Int.zero_add, Int.add_mul, Int.add_assoc]
      congr 1
      rw [Int.mul_assoc, Int.mul_comm 16]
  have := key l (0 * 16 + hxd c)
  have e : hexVal (c :: l) = l.foldl (fun a c => a * 16 + hxd c) (0 * 16 + hxd c) := rfl
  rw [e, this]
  simp
theorem hxd_mono {c d : UInt8} (hc : hexLow c = true) (hd : hexLow d = true) (h : c < d) : hxd c < hxd d := by
  have h1 := of_decide_eq_true hc
  have h2 := of_decide_eq_true hd
  have h3 : c.toNat < d.toNat := h
  rw [hxd_low hc, hxd_low hd]
  split <;> split <;> omega
theorem less_hex : ∀ (x y : List UInt8), x.length = y.length → (∀ c ∈ x, hexLow c = true) → (∀ c ∈ y, hexLow c = true) → Op.bytesLess x y = decide (hexVal x < hexVal y)
  | [], [], _, _, _ => by simp [Op.bytesLess]
  | [], _ :: _, h, _, _ => by simp at h
  | _ :: _, [], h, _, _ => by simp at h
  | c :: x, d :: y, h, hx, hy => by
    have hl : x.length = y.length := by simpa using h
    have ih := less_hex x y hl (fun c hc => hx c (List.mem_cons_of_mem _ hc)) (fun c hc => hy c (List.mem_cons_of_mem _ hc))
    have hc := hx c (List.mem_cons_self ..)
    have hd := hy d (List.mem_cons_self ..)
    have vx := hexVal_lt x.length x rfl (fun c hc => hx c (List.mem_cons_of_mem _ hc))
    have vy := hexVal_lt x.length y hl.symm (fun c hc => hy c (List.mem_cons_of_mem _ hc))
    have nx := hexVal_nonneg x
    have ny := hexVal_nonneg y
    simp only [Op.bytesLess]
    rw [hexVal_cons, hexVal_cons, ← hl]
    have lt : ∀ {a b : UInt8} {u v : Int}, hxd a < hxd b → u < 16 ^ x.length → 0 ≤ v → hxd a * 16 ^ x.length + u < hxd b * 16 ^ x.length + v := by
      intro a b u v hab hu hv
      have h1 : (hxd a + 1) * 16 ^ x.length ≤ hxd b * 16 ^ x.length := Int.mul_le_mul_of_nonneg_right (by omega) (by omega)
      rw [Int.add_mul, Int.one_mul] at h1
      omega
    by_cases h1 : c < d
    · have := lt (hxd_mono hc hd h1) vx ny
      simp [h1, this]
    · by_cases h2 : c = d
      · subst h2
        rw [ih]
        simp
      · have h3 : d < c := by
          have a : ¬ c.toNat < d.toNat := h1
          have b : c.toNat ≠ d.toNat := fun e => h2 (UInt8.toNat_inj.1 e)
          show d.toNat < c.toNat
          omega
        have := lt (hxd_mono hd hc h3) vy nx
        simp only [h1, decide_false, Bool.false_or, h2, beq_iff_eq, Bool.and_eq_true, false_and]
        rw [show (c == d) = false from by simp [h2], Bool.false_and, eq_comm, decide_eq_false_iff_not]
        omega

set_option maxHeartbeats 4000000 in
set_option maxRecDepth 100000 in
theorem numbers_walk (a b : Int) (ha : IntOK a) (hb : IntOK b) (w : World) (hG : GlobK w) : Calls Tryz.prog 4 #[.int .i64 a, .int .i64 b] w fun e w' => e = .returned (.bool true) ∧ Below w.heap.size w w' := by
  have HG : Hid (∀ W, Below w.heap.size w W → GlobK W) := fun W hW => hG.later hW
  have HE := Lib.hid (ex_walk w hG)
  have HA := Lib.hid (fun W (h : GlobK W) => number_any a ha W h.g.tz)
  have HB := Lib.hid (fun W (h : GlobK W) => number_any b hb W h.g.tz)
  clear hG
  obtain ⟨ta, hta⟩ : ∃ ta, numText a = ta := ⟨_, rfl⟩
  obtain ⟨tb, htb⟩ : ∃ tb, numText b = tb := ⟨_, rfl⟩
  rw [hta] at HA
  rw [htb] at HB
  by_cases hin : (0 ≤ a ∧ a ≤ 9007199254740991) ∧ (0 ≤ b ∧ b ≤ 9007199254740991)
  · obtain ⟨a1, a2, a3⟩ := numText_in hin.1
    obtain ⟨b1, b2, b3⟩ := numText_in hin.2
    rw [hta] at a1 a2 a3
    rw [htb] at b1 b2 b3
    have HR : Hid (∀ W, GlobK W → Calls Tryz.prog 16 #[.string ⟨ta.toArray⟩] W fun e w' => e = .returned (.tuple #[.int .i64 a, .bool true]) ∧ Below W.heap.size W w') := fun W hW => by
      have := readNumber_any ta W hW.g (by omega)
      rw [← hta, readNum_text hin.1] at this
      rw [← hta]
      exact this
    have hless := less_hex ta tb (by omega) a2 b2
    rw [a3, b3] at hless
    cases ta with
    | nil => simp at a1
    | cons c r => cases tb with
      | nil => simp at b1
      | cons d q =>
        clear hta htb
        have hl : (r.length : Int) + 1 = 16 := by simp at a1; omega
        go_enter Tryz.func4, Tryz.ntmps4
        go_wp2_with fail
        refine Calls.mono HE.out ?_
        rintro e w1 ⟨rfl, hb1⟩
        have B1 := Lib.hid hb1
        clear hb1
        go_wp2_with fail
        refine Calls.mono (HA.out _ (HG.out _ B1.out)) ?_
        rintro e w2 ⟨rfl, hb2⟩
        have B2 := Lib.hid (B1.out.trans (hb2.mono B1.out.size))
        clear hb2 B1
        go_wp2_with fail
        refine Calls.mono (HB.out _ (HG.out _ B2.out)) ?_
        rintro e w3 ⟨rfl, hb3⟩
        have B3 := Lib.hid (B2.out.trans (hb3.mono B2.out.size))
        clear hb3 B2
        go_wp2_with fail
        refine Calls.mono (HR.out _ (HG.out _ B3.out)) ?_
        rintro e w4 ⟨rfl, hb4⟩
        have B4 := Lib.hid (B3.out.trans (hb4.mono B3.out.size))
        clear hb4 B3
        go_wp2
        go_ret
        exact ⟨rfl, B4.out⟩
  · have cs : ∀ (n : Int) (t : List UInt8), numText n = t → (t = [] ∧ (n < 0 ∨ (¬ n < 0 ∧ 9007199254740991 < n))) ∨ (∃ c r, t = c :: r ∧ 0 ≤ n ∧ n ≤ 9007199254740991) := fun n t h => by
      by_cases hn : 0 ≤ n ∧ n ≤ 9007199254740991
      · right
        have hl := (numText_in hn).1
        rw [h] at hl
        cases t with
        | nil => simp at hl
        | cons c r => exact ⟨c, r, rfl, hn⟩
      · left
        rw [numText_out' hn] at h
        exact ⟨h.symm, by omega⟩
    have ca := cs a ta hta
    have cb := cs b tb htb
    clear cs hta htb
    rcases ca with ⟨rfl, x | ⟨x, x'⟩⟩ | ⟨c, r, rfl, x, x'⟩ <;> rcases cb with ⟨rfl, y | ⟨y, y'⟩⟩ | ⟨d, q, rfl, y, y'⟩
    all_goals first
      | (exfalso; omega)
      | (clear hin
         go_enter Tryz.func4, Tryz.ntmps4
         go_wp2_with fail
         refine Calls.mono HE.out ?_
         rintro e w1 ⟨rfl, hb1⟩
         have B1 := Lib.hid hb1
         clear hb1
         go_wp2_with fail
         refine Calls.mono (HA.out _ (HG.out _ B1.out)) ?_
         rintro e w2 ⟨rfl, hb2⟩
         have B2 := Lib.hid (B1.out.trans (hb2.mono B1.out.size))
         clear hb2 B1
         go_wp2_with fail
         refine Calls.mono (HB.out _ (HG.out _ B2.out)) ?_
         rintro e w3 ⟨rfl, hb3⟩
         have B3 := Lib.hid (B2.out.trans (hb3.mono B2.out.size))
         clear hb3 B2
         go_wp2
         go_ret
         exact ⟨rfl, B3.out⟩)

end Go.Proofs.YtajmkkjlhmeolaaGreatDoor

/-
  storehouseref19.Number: it is numText.
-/
namespace Go.Proofs.YtajmkkjlhmeolaaGreatDoor
open Go.RowKit Go.Lib Go.PlainAid

/-- so many sixteenths are told -/
structure NumSt (n i m : Nat) (t : List UInt8) : Prop where
  len : t.length = i
  low : ∀ c ∈ t, hexLow c = true
  val : (n : Int) = (m : Int) * 16 ^ i + hexVal t
theorem NumSt.step {n i m : Nat} {t : List UInt8} (h : NumSt n i m t) : NumSt n (i + 1) (m / 16) (hexD (m % 16) :: t) := by
  obtain ⟨h1, h2, h3⟩ := h
  have hd := hexD_low (m % 16) (by omega)
  refine ⟨by simp [h1], fun c hc => ?_, ?_⟩
  · rcases List.mem_cons.1 hc with rfl | hc
    · exact hd.1
    · exact h2 c hc
  · rw [hexVal_cons, hd.2, h1, h3, ← Int.add_assoc, Int.pow_succ]
    congr 1
    rw [Int.mul_comm (16 ^ i) 16, ← Int.mul_assoc, ← Int.add_mul]
    congr 1
    omega
theorem NumSt.done {n m : Nat} {t : List UInt8} (h : NumSt n 16 m t) (hn : n ≤ 9007199254740991) : t = numText n := by
  obtain ⟨h1, h2, h3⟩ := h
  have hv := hexVal_nonneg t
  have hm : m = 0 := by
    rcases Nat.eq_zero_or_pos m with h | h
    · exact h
    · exfalso
      have : (1 : Int) * 16 ^ 16 ≤ (m : Int) * 16 ^ 16 := Int.mul_le_mul_of_nonneg_right (by omega) (by decide)
      have e16 : (16 : Int) ^ 16 = 18446744073709551616 := by decide
      rw [e16] at this h3
      omega
  subst hm
  obtain ⟨a1, a2, a3⟩ := numText_in (n := (n : Int)) ⟨by omega, by omega⟩
  exact hexVal_inj 16 _ _ h1 a1 h2 a2 (by rw [a3, h3]; simp)
theorem hexdig_text : ∀ r : Nat, r < 16 → (⟨#[48, 49, 50, 51, 52, 53, 54, 55, 56, 57, 97, 98, 99, 100, 101, 102]⟩ : ByteArray).extract r (r + 1) = ⟨#[hexD r]⟩ := by
  intro r hr
  have : r = 0 ∨ r = 1 ∨ r = 2 ∨ r = 3 ∨ r = 4 ∨ r = 5 ∨ r = 6 ∨ r = 7 ∨ r = 8 ∨ r = 9 ∨ r = 10 ∨ r = 11 ∨ r = 12 ∨ r = 13 ∨ r = 14 ∨ r = 15 := by omega
  rcases this with rfl | rfl | rfl | rfl | rfl | rfl | rfl | rfl | rfl | rfl | rfl | rfl | rfl | rfl | rfl | rfl <;> rfl

set_option maxHeartbeats 2000000 in
set_option maxRecDepth 100000 in
theorem rNumber_any (n : Int) (hn : IntOK n) (w : World) : Calls Tryz.prog 19 #[.int .i64 n] w fun e w' => e = .returned (.string ⟨(numText n).toArray⟩) ∧ w = w' := by
  by_cases hr : 0 ≤ n ∧ n ≤ 9007199254740991
  · obtain ⟨k, rfl⟩ := Int.eq_ofNat_of_zero_le hr.1
    have hk : k ≤ 9007199254740991 := by omega
    obtain ⟨R, hR⟩ : ∃ R, Hid (numText (k : Int) = R) := ⟨_, rfl⟩
    rw [hR.out]
    have x1 : ¬ ((k : Int) < 0) := by omega
    have x2 : ¬ ((9007199254740991 : Int) < (k : Int)) := by omega
    go_enter Tryz.func19, Tryz.ntmps19
    go_wp2
    go_loopg [0, 3, 4] 16 (fun gg s0 s3 s4 wr => ∃ (i m : Nat) (t : List UInt8), i ≤ 16 ∧ 16 - i ≤ gg ∧ s0 = .int .i64 m ∧ s3 = .string ⟨t.toArray⟩ ∧ s4 = .int .i64 i ∧ m ≤ 9007199254740991 ∧ Hid (NumSt k i m t) ∧ wr = w)
    case atStart => exact ⟨0, k, [], by omega, by omega, rfl, rfl, rfl, hk, ⟨rfl, fun c hc => (by cases hc), by simp [hexVal]⟩, rfl⟩
    case round =>
      obtain ⟨i, m, t, hi, hgg, rfl, rfl, rfl, hm, HS, rfl⟩ := hrel
      by_cases hlt : i < 16
      · have hlz : (i : Int) < 16 := by omega
        have htl := HS.out.len
        have hd := Lib.hid (hexdig_text (m % 16) (by omega))
        have f1 : (m : Int).tdiv 16 = ((m / 16 : Nat) : Int) := by rw [Int.tdiv_eq_ediv_of_nonneg (by omega)]; omega
        have f2 : (m : Int).tmod 16 = ((m % 16 : Nat) : Int) := by rw [Int.tmod_eq_emod_of_nonneg (by omega)]; omega
        have f3 : IntKind.i64.wrap (((m % 16 : Nat) : Int) + 1) = ((m % 16 : Nat) : Int) + 1 := by go_arith
        have f4 : IntKind.i64.wrap ((m / 16 : Nat) : Int) = ((m / 16 : Nat) : Int) := by go_arith
        have f5 : IntKind.i64.wrap ((m % 16 : Nat) : Int) = ((m % 16 : Nat) : Int) := by go_arith
        have HN := Lib.hid HS.out.step
        have hm' : m / 16 ≤ 9007199254740991 := by omega
        obtain ⟨r, hr⟩ : ∃ r : Nat, r = m % 16 := ⟨_, rfl⟩
        obtain ⟨q, hq⟩ : ∃ q : Nat, q = m / 16 := ⟨_, rfl⟩
        have hr16 : r < 16 := by omega
        rw [← hr] at hd f2 f3 f5 HN
        rw [← hq] at f1 f4 HN hm'
        have g1 : (0 : Int) ≤ (r : Int) + 1 := by omega
        have g2 : ((r : Int) + 1).toNat = r + 1 := by omega
        have g3 : (ByteArray.mk #[48, 49, 50, 51, 52, 53, 54, 55, 56, 57, 97, 98, 99, 100, 101, 102]).size = 16 := rfl
        have g4 : ¬ 9223372036854775807 < (min (r + 1) 16 - r) + t.length := by omega
        clear HS hr hq
        go_wp2
        go_roundg (16 - (i + 1))
        case measure => omega
        case rel =>
          refine ⟨i + 1, q, hexD r :: t, by omega, Nat.le_refl _, rfl, ?_, by go_num, hm', HN, rfl⟩
          rw [hd.out]
          congr 1
      · obtain rfl : i = 16 := by omega
        have hR' := HS.out.done hk
        rw [hR.out] at hR'
        subst hR'
        go_wp2
        go_ret
        exact ⟨rfl, rfl⟩
  · have e : numText n = [] := numText_out hr
    rw [e]
    clear e
    by_cases h0 : n < 0
    · go_enter Tryz.func19, Tryz.ntmps19
      go_wp2
      go_ret
      exact ⟨rfl, rfl⟩
    · have h1 : 9007199254740991 < n := by omega
      go_enter Tryz.func19, Tryz.ntmps19
      go_wp2
      go_ret
      exact ⟨rfl, rfl⟩

end Go.Proofs.YtajmkkjlhmeolaaGreatDoor
