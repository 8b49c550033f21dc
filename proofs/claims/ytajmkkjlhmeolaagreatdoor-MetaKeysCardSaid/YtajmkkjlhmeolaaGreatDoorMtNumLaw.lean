/-
  MetaNumbers: the law.
-/
import Derived.Test.YtajmkkjlhmeolaaGreatDoorMtEx
import Derived.Test.YtajmkkjlhmeolaaGreatDoorMtReadNum
namespace Go.Proofs.YtajmkkjlhmeolaaGreatDoor
open Go.RowKit Go.Lib

theorem numText_out' {n : Int} (h : ¬ (0 ≤ n ∧ n ≤ 9007199254740991)) : numText n = [] := by unfold numText; rw [if_neg h]

theorem hexVal_cons (c : UInt8) (l : List UInt8) : hexVal (c :: l) = hxd c * 16 ^ l.length + hexVal l := by
  have key : ∀ (l : List UInt8) (A : Int), l.foldl (fun a c => a * 16 + hxd c) A = A * 16 ^ l.length + hexVal l := by
    intro l
    induction l with
    | nil => intro A; simp [hexVal]
    | cons c l ih =>
      intro A
      have e : hexVal (c :: l) = (0 * 16 + hxd c) * 16 ^ l.length + hexVal l := ih _
      rw [List.foldl_cons, ih, e, List.length_cons, Int.pow_succ, Int.zero_mul, Int.zero_add, Int.add_mul, Int.add_assoc]
      congr 1
      rw [Int.mul_assoc, Int.mul_comm 16]
  have := key l (0 * 16 + hxd c)
  have e : hexVal (c :: l) = l.foldl (fun a c => a * 16 + hxd c) (0 * 16 + hxd c) := rfl
  rw [e, this]
  simp
theorem hxd_mono {c d : UInt8} (hc : hexLow c = true) (hd : hexLow d = true) (h : c < d) : hxd c < hxd d := by
  have h1 := of_decide_eq_true hc
  have h2 := of_decide_eq_true hd
  have h3 : c.toNat < d.toNat := h
  rw [hxd_low hc, hxd_low hd]
  split <;> split <;> omega
theorem less_hex : ∀ (x y : List UInt8), x.length = y.length → (∀ c ∈ x, hexLow c = true) → (∀ c ∈ y, hexLow c = true) → Op.bytesLess x y = decide (hexVal x < hexVal y)
  | [], [], _, _, _ => by simp [Op.bytesLess]
  | [], _ :: _, h, _, _ => by simp at h
  | _ :: _, [], h, _, _ => by simp at h
  | c :: x, d :: y, h, hx, hy => by
    have hl : x.length = y.length := by simpa using h
    have ih := less_hex x y hl (fun c hc => hx c (List.mem_cons_of_mem _ hc)) (fun c hc => hy c (List.mem_cons_of_mem _ hc))
    have hc := hx c (List.mem_cons_self ..)
    have hd := hy d (List.mem_cons_self ..)
    have vx := hexVal_lt x.length x rfl (fun c hc => hx c (List.mem_cons_of_mem _ hc))
    have vy := hexVal_lt x.length y hl.symm (fun c hc => hy c (List.mem_cons_of_mem _ hc))
    have nx := hexVal_nonneg x
    have ny := hexVal_nonneg y
    simp only [Op.bytesLess]
    rw [hexVal_cons, hexVal_cons, ← hl]
    have lt : ∀ {a b : UInt8} {u v : Int}, hxd a < hxd b → u < 16 ^ x.length → 0 ≤ v → hxd a * 16 ^ x.length + u < hxd b * 16 ^ x.length + v := by
      intro a b u v hab hu hv
      have h1 : (hxd a + 1) * 16 ^ x.length ≤ hxd b * 16 ^ x.length := Int.mul_le_mul_of_nonneg_right (by omega) (by omega)
      rw [Int.add_mul, Int.one_mul] at h1
      omega
    by_cases h1 : c < d
    · have := lt (hxd_mono hc hd h1) vx ny
      simp [h1, this]
    · by_cases h2 : c = d
      · subst h2
        rw [ih]
        simp
      · have h3 : d < c := by
          have a : ¬ c.toNat < d.toNat := h1
          have b : c.toNat ≠ d.toNat := fun e => h2 (UInt8.toNat_inj.1 e)
          show d.toNat < c.toNat
          omega
        have := lt (hxd_mono hd hc h3) vy nx
        simp only [h1, decide_false, Bool.false_or, h2, beq_iff_eq, Bool.and_eq_true, false_and]
        rw [show (c == d) = false from by simp [h2], Bool.false_and, eq_comm, decide_eq_false_iff_not]
        omega

set_option maxHeartbeats 4000000 in
set_option maxRecDepth 100000 in
theorem numbers_walk (a b : Int) (ha : IntOK a) (hb : IntOK b) (w : World) (hG : GlobK w) : Calls Tryz.prog 4 #[.int .i64 a, .int .i64 b] w fun e w' => e = .returned (.bool true) ∧ Below w.heap.size w w' := by
  have HG : Hid (∀ W, Below w.heap.size w W → GlobK W) := fun W hW => hG.later hW
  have HE := Lib.hid (ex_walk w hG)
  have HA := Lib.hid (fun W (h : GlobK W) => number_any a ha W h.g.tz)
  have HB := Lib.hid (fun W (h : GlobK W) => number_any b hb W h.g.tz)
  clear hG
  obtain ⟨ta, hta⟩ : ∃ ta, numText a = ta := ⟨_, rfl⟩
  obtain ⟨tb, htb⟩ : ∃ tb, numText b = tb := ⟨_, rfl⟩
  rw [hta] at HA
  rw [htb] at HB
  by_cases hin : (0 ≤ a ∧ a ≤ 9007199254740991) ∧ (0 ≤ b ∧ b ≤ 9007199254740991)
  · obtain ⟨a1, a2, a3⟩ := numText_in hin.1
    obtain ⟨b1, b2, b3⟩ := numText_in hin.2
    rw [hta] at a1 a2 a3
    rw [htb] at b1 b2 b3
    have HR : Hid (∀ W, GlobK W → Calls Tryz.prog 16 #[.string ⟨ta.toArray⟩] W fun e w' => e = .returned (.tuple #[.int .i64 a, .bool true]) ∧ Below W.heap.size W w') := fun W hW => by
      have := readNumber_any ta W hW.g (by omega)
      rw [← hta, readNum_text hin.1] at this
      rw [← hta]
      exact this
    have hless := less_hex ta tb (by omega) a2 b2
    rw [a3, b3] at hless
    cases ta with
    | nil => simp at a1
    | cons c r => cases tb with
      | nil => simp at b1
      | cons d q =>
        clear hta htb
        have hl : (r.length : Int) + 1 = 16 := by simp at a1; omega
        go_enter Tryz.func4, Tryz.ntmps4
        go_wp2_with fail
        refine Calls.mono HE.out ?_
        rintro e w1 ⟨rfl, hb1⟩
        have B1 := Lib.hid hb1
        clear hb1
        go_wp2_with fail
        refine Calls.mono (HA.out _ (HG.out _ B1.out)) ?_
        rintro e w2 ⟨rfl, hb2⟩
        have B2 := Lib.hid (B1.out.trans (hb2.mono B1.out.size))
        clear hb2 B1
        go_wp2_with fail
        refine Calls.mono (HB.out _ (HG.out _ B2.out)) ?_
        rintro e w3 ⟨rfl, hb3⟩
        have B3 := Lib.hid (B2.out.trans (hb3.mono B2.out.size))
        clear hb3 B2
        go_wp2_with fail
        refine Calls.mono (HR.out _ (HG.out _ B3.out)) ?_
        rintro e w4 ⟨rfl, hb4⟩
        have B4 := Lib.hid (B3.out.trans (hb4.mono B3.out.size))
        clear hb4 B3
        go_wp2
        go_ret
        exact ⟨rfl, B4.out⟩
  · have cs : ∀ (n : Int) (t : List UInt8), numText n = t → (t = [] ∧ (n < 0 ∨ (¬ n < 0 ∧ 9007199254740991 < n))) ∨ (∃ c r, t = c :: r ∧ 0 ≤ n ∧ n ≤ 9007199254740991) := fun n t h => by
      by_cases hn : 0 ≤ n ∧ n ≤ 9007199254740991
      · right
        have hl := (numText_in hn).1
        rw [h] at hl
        cases t with
        | nil => simp at hl
        | cons c r => exact ⟨c, r, rfl, hn⟩
      · left
        rw [numText_out' hn] at h
        exact ⟨h.symm, by omega⟩
    have ca := cs a ta hta
    have cb := cs b tb htb
    clear cs hta htb
    rcases ca with ⟨rfl, x | ⟨x, x'⟩⟩ | ⟨c, r, rfl, x, x'⟩ <;> rcases cb with ⟨rfl, y | ⟨y, y'⟩⟩ | ⟨d, q, rfl, y, y'⟩
    all_goals first
      | (exfalso; omega)
      | (clear hin
         go_enter Tryz.func4, Tryz.ntmps4
         go_wp2_with fail
         refine Calls.mono HE.out ?_
         rintro e w1 ⟨rfl, hb1⟩
         have B1 := Lib.hid hb1
         clear hb1
         go_wp2_with fail
         refine Calls.mono (HA.out _ (HG.out _ B1.out)) ?_
         rintro e w2 ⟨rfl, hb2⟩
         have B2 := Lib.hid (B1.out.trans (hb2.mono B1.out.size))
         clear hb2 B1
         go_wp2_with fail
         refine Calls.mono (HB.out _ (HG.out _ B2.out)) ?_
         rintro e w3 ⟨rfl, hb3⟩
         have B3 := Lib.hid (B2.out.trans (hb3.mono B2.out.size))
         clear hb3 B2
         go_wp2
         go_ret
         exact ⟨rfl, B3.out⟩)

end Go.Proofs.YtajmkkjlhmeolaaGreatDoor
