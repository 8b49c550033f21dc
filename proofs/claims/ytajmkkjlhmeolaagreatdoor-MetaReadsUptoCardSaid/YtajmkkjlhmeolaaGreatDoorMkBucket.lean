/-
  storehouseref13.Bucket: the walk.
-/
import Derived.Test.YtajmkkjlhmeolaaGreatDoorSm25
import Derived.Test.YtajmkkjlhmeolaaGreatDoorSm24
namespace Go.Proofs.YtajmkkjlhmeolaaGreatDoor
open Go.RowKit Go.Lib Go.PlainAid

def prevOf (s : List UInt8) (i : Nat) : Option UInt8 := if i = 0 then none else s[i - 1]?
structure BkSt (s : List UInt8) (i k : Nat) (nb : Bool) : Prop where
  scan : scanB none s = scanB (prevOf s i) (s.drop i)
  dots : k + (s.drop i).count 46 = s.count 46
  num : (nb && (s.drop i).all ddB) = s.all ddB
theorem BkSt.start (s : List UInt8) : BkSt s 0 0 true := ⟨by simp [prevOf], by simp, by simp⟩
theorem BkSt.bad {s : List UInt8} {i k : Nat} {nb : Bool} (h : BkSt s i k nb) (hl : 3 ≤ s.length ∧ s.length ≤ 63) (hi : i < s.length) (hc : chkB (prevOf s i) s[i] (s.drop (i + 1)).isEmpty = false) : bucketB s = false := by
  rw [bucketB_scan hl, h.scan, List.drop_eq_getElem_cons hi, scanB, hc]
  rfl
theorem BkSt.step {s : List UInt8} {i k : Nat} {nb : Bool} (h : BkSt s i k nb) (hi : i < s.length) (hc : chkB (prevOf s i) s[i] (s.drop (i + 1)).isEmpty = true) :
    BkSt s (i + 1) (if s[i] = 46 then k + 1 else k) (nb && ddB s[i]) := by
  have hd := List.drop_eq_getElem_cons hi
  refine ⟨?_, ?_, ?_⟩
  · rw [h.scan, hd, scanB, hc, Bool.true_and]
    congr 1
    unfold prevOf
    rw [if_neg (by omega)]
    simp [hi]
  · have := h.dots
    rw [hd, List.count_cons] at this
    split
    · rename_i e; rw [if_pos (by simp [e])] at this; omega
    · rename_i e; rw [if_neg (by simp [e])] at this; omega
  · rw [← h.num, hd, List.all_cons, Bool.and_assoc]
theorem BkSt.done {s : List UInt8} {k : Nat} {nb : Bool} (h : BkSt s s.length k nb) (hl : 3 ≤ s.length ∧ s.length ≤ 63) : bucketB s = (!nb || k != 3) := by
  rw [bucketB_scan hl, h.scan, ← h.num, ← h.dots]
  simp [scanB]

set_option maxHeartbeats 4000000 in
set_option maxRecDepth 100000 in
theorem rBucket_any (s : List UInt8) (hs : s.length ≤ 140737488355328) (w : World) : Calls Tryz.prog 56 #[.string ⟨s.toArray⟩] w fun e w' => e = .returned (.bool (bucketB s)) ∧ w = w' := by
  obtain ⟨R, hR⟩ : ∃ R, Hid (bucketB s = R) := ⟨_, rfl⟩
  rw [hR.out]
  by_cases h3 : s.length < 3
  · have e : bucketB s = false := by unfold bucketB; rw [decide_eq_false (by omega)]; rfl
    rw [hR.out] at e
    subst e
    have x : (s.length : Int) < 3 := by omega
    go_enter Tryz.func56, Tryz.ntmps56
    go_wp2
    go_ret
    exact ⟨rfl, rfl⟩
  by_cases h63 : 63 < s.length
  · have e : bucketB s = false := by unfold bucketB; rw [decide_eq_false (by omega)]; rfl
    rw [hR.out] at e
    subst e
    have x : ¬ (s.length : Int) < 3 := by omega
    have x' : (63 : Int) < (s.length : Int) := by omega
    go_enter Tryz.func56, Tryz.ntmps56
    go_wp2
    go_ret
    exact ⟨rfl, rfl⟩
  have hl : 3 ≤ s.length ∧ s.length ≤ 63 := by omega
  have x : ¬ (s.length : Int) < 3 := by omega
  have x' : ¬ (63 : Int) < (s.length : Int) := by omega
  have hsz : (⟨s.toArray⟩ : ByteArray).size = s.length := by simp [ByteArray.size]
  go_enter Tryz.func56, Tryz.ntmps56
  go_wp2
  go_loopg [3, 4, 5] s.length (fun gg s3 s4 s5 wr => ∃ (i k : Nat) (nb : Bool), i ≤ s.length ∧ s.length - i ≤ gg ∧ s3 = .int .i64 k ∧ s4 = .bool nb ∧ s5 = .int .i64 i ∧ k ≤ i ∧ Hid (BkSt s i k nb) ∧ wr = w)
  case atStart => exact ⟨0, 0, true, by omega, by omega, rfl, rfl, rfl, by omega, BkSt.start s, rfl⟩
  case round =>
    obtain ⟨i, k, nb, hi, hgg, rfl, rfl, rfl, hk, HS, rfl⟩ := hrel
    by_cases hlt : i < s.length
    · have hlz : (i : Int) < (s.length : Int) := by omega
      obtain ⟨z, hz⟩ : ∃ z : Int, (((⟨s.toArray⟩ : ByteArray)[i]'(by rw [hsz]; exact hlt)).toNat : Int) = z := ⟨_, rfl⟩
      have hzs : ((s[i]'hlt).toNat : Int) = z := by rw [← hz]; simp [ByteArray.getElem_eq_getElem_data]
      have hbad := HS.out.bad hl hlt
      have hstep := HS.out.step hlt
      rw [hR.out] at hbad
      obtain ⟨c, hc⟩ : ∃ c, s[i]'hlt = c := ⟨_, rfl⟩
      rw [hc] at hbad hstep hzs
      have hlast : (s.drop (i + 1)).isEmpty = decide (i + 1 = s.length) := by
        rw [Bool.eq_iff_iff, List.isEmpty_iff, List.drop_eq_nil_iff, decide_eq_true_iff]; omega
      rw [hlast] at hbad hstep
      -- what the byte is
      have hcz : ∀ (v : UInt8), (c == v) = decide (z = (v.toNat : Int)) := fun v => by
        rw [Bool.eq_iff_iff, beq_iff_eq, decide_eq_true_iff, ← hzs]
        exact ⟨fun h => by rw [h], fun h => UInt8.toNat_inj.1 (by omega)⟩
      have hc45 : (c == 45) = decide (z = 45) := hcz 45
      have hc46 : (c == 46) = decide (z = 46) := hcz 46
      have hsd : sdB c = decide ((97 ≤ z ∧ z ≤ 122) ∨ (48 ≤ z ∧ z ≤ 57)) := by
        unfold sdB
        rw [Bool.eq_iff_iff, decide_eq_true_iff, decide_eq_true_iff]
        omega
      have hdd : ddB c = decide ((48 ≤ z ∧ z ≤ 57) ∨ z = 46) := by
        unfold ddB
        rw [hc46, Bool.eq_iff_iff, Bool.or_eq_true, decide_eq_true_iff, decide_eq_true_iff, decide_eq_true_iff]
        omega
      have hok : okB c = decide ((97 ≤ z ∧ z ≤ 122) ∨ (48 ≤ z ∧ z ≤ 57) ∨ z = 45) := by
        rw [okB_sd, hsd, hc45, Bool.eq_iff_iff, Bool.or_eq_true, decide_eq_true_iff, decide_eq_true_iff, decide_eq_true_iff]
        omega
      have hif : (c = 46) = (z = 46) := by
        have := hcz 46
        apply propext
        exact ⟨fun h => by rw [h] at hzs; exact hzs.symm, fun h => UInt8.toNat_inj.1 (by have : (46 : UInt8).toNat = 46 := rfl; omega)⟩
      clear hcz
      rcases (by omega : z < 45 ∨ z = 45 ∨ z = 46 ∨ z = 47 ∨ (48 ≤ z ∧ z ≤ 57) ∨ (57 < z ∧ z < 97) ∨ (97 ≤ z ∧ z ≤ 122) ∨ 122 < z) with h | rfl | rfl | rfl | ⟨h, h'⟩ | ⟨h, h'⟩ | ⟨h, h'⟩ | h
      · have hF := hbad (by unfold chkB; rw [hok, hc46, decide_eq_false (by omega), decide_eq_false (by omega)]; rfl)
        subst hF
        clear hstep hbad HS hlast hif hok hdd hsd hc45 hc46
        have x1 : ¬ (97 ≤ z) := by omega
        have x2 : ¬ (48 ≤ z) := by omega
        have x3 : (z != 45) = true := by rw [bne_iff_ne]; omega
        have x4 : (z != 46) = true := by rw [bne_iff_ne]; omega
        go_wp2
        go_ret
        exact ⟨rfl, rfl⟩
      · rcases (by omega : i = 0 ∨ (0 < i ∧ i + 1 = s.length) ∨ (0 < i ∧ i + 1 < s.length)) with hp | ⟨hp, hp'⟩ | ⟨hp, hp'⟩
        · have hF := hbad (by
            unfold chkB
            rw [hok, hsd, decide_eq_false (p := _ ∨ _) (by omega : ¬ ((97 ≤ (45 : Int) ∧ (45 : Int) ≤ 122) ∨ (48 ≤ (45 : Int) ∧ (45 : Int) ≤ 57)))]
            rw [show prevOf s i = none by unfold prevOf; rw [if_pos hp]]
            simp)
          subst hF
          clear hstep hbad HS hlast hif hok hdd hsd hc45 hc46
          subst hp
          have p0 : True := trivial
          go_wp2
          go_ret
          exact ⟨rfl, rfl⟩
        · have hF := hbad (by
            unfold chkB
            rw [hok, hsd, decide_eq_false (p := _ ∨ _) (by omega : ¬ ((97 ≤ (45 : Int) ∧ (45 : Int) ≤ 122) ∨ (48 ≤ (45 : Int) ∧ (45 : Int) ≤ 57)))]
            rw [decide_eq_true (p := i + 1 = s.length) hp']
            simp)
          subst hF
          clear hstep hbad HS hlast hif hok hdd hsd hc45 hc46
          have p1 : ¬ ((i : Int) = 0) := by omega
          have p1n : ¬ (i = 0) := by omega
          have p2 : (s.length : Int) - 1 = (i : Int) := by omega
          have p3 : (0 : Int) < (i : Int) := by omega
          have p3n : 0 < i := by omega
          go_wp2
          go_ret
          exact ⟨rfl, rfl⟩
        · have p1 : ¬ ((i : Int) = 0) := by omega
          have p1n : ¬ (i = 0) := by omega
          have p2 : ¬ ((i : Int) = (s.length : Int) - 1) := by omega
          have p3 : (0 : Int) < (i : Int) := by omega
          have p3n : 0 < i := by omega
          have hpv : prevOf s i = some (s[i - 1]'(by omega)) := by unfold prevOf; rw [if_neg (by omega), List.getElem?_eq_getElem (by omega)]
          obtain ⟨y, hy⟩ : ∃ y : Int, (((⟨s.toArray⟩ : ByteArray)[i - 1]'(by rw [hsz]; omega)).toNat : Int) = y := ⟨_, rfl⟩
          have hys : ((s[i - 1]'(by omega)).toNat : Int) = y := by rw [← hy]; simp [ByteArray.getElem_eq_getElem_data]
          obtain ⟨d, hd⟩ : ∃ d, s[i - 1]'(by omega) = d := ⟨_, rfl⟩
          rw [hd] at hpv hys
          have hdz : ∀ (v : UInt8), (d == v) = decide (y = (v.toNat : Int)) := fun v => by
            rw [Bool.eq_iff_iff, beq_iff_eq, decide_eq_true_iff, ← hys]
            exact ⟨fun h => by rw [h], fun h => UInt8.toNat_inj.1 (by omega)⟩
          have hd45 : (d == 45) = decide (y = 45) := hdz 45
          have hd46 : (d == 46) = decide (y = 46) := hdz 46
          clear hdz hd
          have hidx : IntKind.i64.wrap ((i : Int) - 1) = ((i - 1 : Nat) : Int) := by
            have : (i : Int) - 1 = ((i - 1 : Nat) : Int) := by omega
            rw [this]; go_arith
          have hidx2 : (i : Int) - 1 = ((i - 1 : Nat) : Int) := by omega
          have hidx3 : ((i - 1 : Nat) : Int) < (s.length : Int) := by omega
          by_cases hy46 : y = 46
          · have hck : chkB (prevOf s i) c (decide (i + 1 = s.length)) = false := by
              unfold chkB
              rw [hok, hc46, hsd, hpv, decide_eq_false (p := i + 1 = s.length) (by omega)]
              simp [pairB, hc45, hc46, hd45, hd46, hy46]
            have hF := hbad hck
            clear hck hpv hd45 hd46
            subst hy46
            subst hF
            clear hstep hbad HS hlast hif hok hdd hsd hc45 hc46
            have u : True := trivial
            go_wp2
            go_ret
            exact ⟨rfl, rfl⟩
          · have hck : chkB (prevOf s i) c (decide (i + 1 = s.length)) = true := by
              unfold chkB
              rw [hok, hc46, hsd, hpv, decide_eq_false (p := i + 1 = s.length) (by omega)]
              simp [pairB, hc45, hc46, hd45, hd46, hy46]
            have hstep := hstep hck
            rw [hdd, if_neg (by rw [hif]; omega), decide_eq_false (by omega), Bool.and_false] at hstep
            clear hck hpv hd45 hd46
            have y1 : (y == 46) = false := by rw [beq_eq_false_iff_ne]; exact hy46
            clear hbad HS hlast hif hok hdd hsd hc45 hc46
            have HS' := Lib.hid hstep
            clear hstep
            have u : True := trivial
            go_wp2
            go_roundg (s.length - (i + 1))
            case measure => omega
            case rel => exact ⟨i + 1, k, false, by omega, Nat.le_refl _, by first | rfl | go_num, rfl, by go_num, by omega, HS'.out, rfl⟩
      · rcases (by omega : i = 0 ∨ (0 < i ∧ i + 1 = s.length) ∨ (0 < i ∧ i + 1 < s.length)) with hp | ⟨hp, hp'⟩ | ⟨hp, hp'⟩
        · have hF := hbad (by
            unfold chkB
            rw [hok, hsd, decide_eq_false (p := _ ∨ _) (by omega : ¬ ((97 ≤ (46 : Int) ∧ (46 : Int) ≤ 122) ∨ (48 ≤ (46 : Int) ∧ (46 : Int) ≤ 57)))]
            rw [show prevOf s i = none by unfold prevOf; rw [if_pos hp]]
            simp)
          subst hF
          clear hstep hbad HS hlast hif hok hdd hsd hc45 hc46
          subst hp
          have p0 : True := trivial
          go_wp2
          go_ret
          exact ⟨rfl, rfl⟩
        · have hF := hbad (by
            unfold chkB
            rw [hok, hsd, decide_eq_false (p := _ ∨ _) (by omega : ¬ ((97 ≤ (46 : Int) ∧ (46 : Int) ≤ 122) ∨ (48 ≤ (46 : Int) ∧ (46 : Int) ≤ 57)))]
            rw [decide_eq_true (p := i + 1 = s.length) hp']
            simp)
          subst hF
          clear hstep hbad HS hlast hif hok hdd hsd hc45 hc46
          have p1 : ¬ ((i : Int) = 0) := by omega
          have p1n : ¬ (i = 0) := by omega
          have p2 : (s.length : Int) - 1 = (i : Int) := by omega
          have p3 : (0 : Int) < (i : Int) := by omega
          have p3n : 0 < i := by omega
          go_wp2
          go_ret
          exact ⟨rfl, rfl⟩
        · have p1 : ¬ ((i : Int) = 0) := by omega
          have p1n : ¬ (i = 0) := by omega
          have p2 : ¬ ((i : Int) = (s.length : Int) - 1) := by omega
          have p3 : (0 : Int) < (i : Int) := by omega
          have p3n : 0 < i := by omega
          have hpv : prevOf s i = some (s[i - 1]'(by omega)) := by unfold prevOf; rw [if_neg (by omega), List.getElem?_eq_getElem (by omega)]
          obtain ⟨y, hy⟩ : ∃ y : Int, (((⟨s.toArray⟩ : ByteArray)[i - 1]'(by rw [hsz]; omega)).toNat : Int) = y := ⟨_, rfl⟩
          have hys : ((s[i - 1]'(by omega)).toNat : Int) = y := by rw [← hy]; simp [ByteArray.getElem_eq_getElem_data]
          obtain ⟨d, hd⟩ : ∃ d, s[i - 1]'(by omega) = d := ⟨_, rfl⟩
          rw [hd] at hpv hys
          have hdz : ∀ (v : UInt8), (d == v) = decide (y = (v.toNat : Int)) := fun v => by
            rw [Bool.eq_iff_iff, beq_iff_eq, decide_eq_true_iff, ← hys]
            exact ⟨fun h => by rw [h], fun h => UInt8.toNat_inj.1 (by omega)⟩
          have hd45 : (d == 45) = decide (y = 45) := hdz 45
          have hd46 : (d == 46) = decide (y = 46) := hdz 46
          clear hdz hd
          have hidx : IntKind.i64.wrap ((i : Int) - 1) = ((i - 1 : Nat) : Int) := by
            have : (i : Int) - 1 = ((i - 1 : Nat) : Int) := by omega
            rw [this]; go_arith
          have hidx2 : (i : Int) - 1 = ((i - 1 : Nat) : Int) := by omega
          have hidx3 : ((i - 1 : Nat) : Int) < (s.length : Int) := by omega
          rcases (by omega : y = 46 ∨ y = 45 ∨ (y ≠ 46 ∧ y ≠ 45)) with hy46 | hy45 | ⟨hy46, hy45⟩
          · have hck : chkB (prevOf s i) c (decide (i + 1 = s.length)) = false := by
              unfold chkB
              rw [hok, hc46, hsd, hpv, decide_eq_false (p := i + 1 = s.length) (by omega)]
              simp [pairB, hc45, hc46, hd45, hd46, hy46]
            have hF := hbad hck
            clear hck hpv hd45 hd46
            subst hy46
            subst hF
            clear hstep hbad HS hlast hif hok hdd hsd hc45 hc46
            have u : True := trivial
            go_wp2
            go_ret
            exact ⟨rfl, rfl⟩
          · have hck : chkB (prevOf s i) c (decide (i + 1 = s.length)) = false := by
              unfold chkB
              rw [hok, hc46, hsd, hpv, decide_eq_false (p := i + 1 = s.length) (by omega)]
              simp [pairB, hc45, hc46, hd45, hd46, hy45]
            have hF := hbad hck
            clear hck hpv hd45 hd46
            subst hy45
            subst hF
            clear hstep hbad HS hlast hif hok hdd hsd hc45 hc46
            have u : True := trivial
            go_wp2
            go_ret
            exact ⟨rfl, rfl⟩
          · have hck : chkB (prevOf s i) c (decide (i + 1 = s.length)) = true := by
              unfold chkB
              rw [hok, hc46, hsd, hpv, decide_eq_false (p := i + 1 = s.length) (by omega)]
              simp [pairB, hc45, hc46, hd45, hd46, hy46, hy45]
            have hstep := hstep hck
            rw [hdd, if_pos (by rw [hif]), decide_eq_true (by omega), Bool.and_true] at hstep
            clear hck hpv hd45 hd46
            have y1 : (y == 46) = false := by rw [beq_eq_false_iff_ne]; exact hy46
            have y2 : (y == 45) = false := by rw [beq_eq_false_iff_ne]; exact hy45
            clear hbad HS hlast hif hok hdd hsd hc45 hc46
            have HS' := Lib.hid hstep
            clear hstep
            have u : True := trivial
            go_wp2
            go_roundg (s.length - (i + 1))
            case measure => omega
            case rel => exact ⟨i + 1, k + 1, nb, by omega, Nat.le_refl _, by first | rfl | go_num, rfl, by go_num, by omega, HS'.out, rfl⟩
      · have hF := hbad (by unfold chkB; rw [hok, hc46, decide_eq_false (by omega), decide_eq_false (by omega)]; rfl)
        subst hF
        clear hstep hbad HS hlast hif hok hdd hsd hc45 hc46
        go_wp2
        go_ret
        exact ⟨rfl, rfl⟩
      · have hck : chkB (prevOf s i) c (decide (i + 1 = s.length)) = true := by
          unfold chkB
          rw [hok, hc46, hsd, decide_eq_true (p := (97 ≤ z ∧ z ≤ 122) ∨ (48 ≤ z ∧ z ≤ 57) ∨ z = 45) (by omega), decide_eq_false (p := z = 46) (by omega), decide_eq_true (p := (97 ≤ z ∧ z ≤ 122) ∨ (48 ≤ z ∧ z ≤ 57)) (by omega)]
          have : pairB (prevOf s i) c = true := by
            unfold pairB
            split
            · rfl
            · rw [hc45, hc46, decide_eq_false (by omega), decide_eq_false (by omega)]; rfl
          rw [this]
          simp
        have hstep := hstep hck
        rw [hdd, if_neg (by rw [hif]; omega), decide_eq_true (by omega), Bool.and_true] at hstep
        clear hck
        have x1 : ¬ (97 ≤ z) := by omega
        have x3 : (z == 46) = false := by rw [beq_eq_false_iff_ne]; omega
        have x4 : (z == 45) = false := by rw [beq_eq_false_iff_ne]; omega
        have x5 : 48 ≤ z := by omega
        have x6 : z ≤ 57 := by omega
        rcases (by omega : i = 0 ∨ (0 < i ∧ i + 1 = s.length) ∨ (0 < i ∧ i + 1 < s.length)) with hp | ⟨hp, hp'⟩ | ⟨hp, hp'⟩
        · subst hp
          clear hbad HS hlast hif hok hdd hsd hc45 hc46
          have HS' := Lib.hid hstep
          clear hstep
          have p0 : True := trivial
          go_wp2
          go_roundg (s.length - (0 + 1))
          case measure => omega
          case rel => exact ⟨0 + 1, k, nb, by omega, Nat.le_refl _, by first | rfl | go_num, rfl, by go_num, by omega, HS'.out, rfl⟩
        · clear hbad HS hlast hif hok hdd hsd hc45 hc46
          have HS' := Lib.hid hstep
          clear hstep
          have p1 : ¬ ((i : Int) = 0) := by omega
          have p1n : ¬ (i = 0) := by omega
          have p2 : (s.length : Int) - 1 = (i : Int) := by omega
          have p3 : (0 : Int) < (i : Int) := by omega
          have p3n : 0 < i := by omega
          go_wp2
          go_roundg (s.length - (i + 1))
          case measure => omega
          case rel => exact ⟨i + 1, k, nb, by omega, Nat.le_refl _, by first | rfl | go_num, rfl, by go_num, by omega, HS'.out, rfl⟩
        · clear hbad HS hlast hif hok hdd hsd hc45 hc46
          have HS' := Lib.hid hstep
          clear hstep
          have p1 : ¬ ((i : Int) = 0) := by omega
          have p1n : ¬ (i = 0) := by omega
          have p2 : ¬ ((i : Int) = (s.length : Int) - 1) := by omega
          have p3 : (0 : Int) < (i : Int) := by omega
          have p3n : 0 < i := by omega
          go_wp2
          go_roundg (s.length - (i + 1))
          case measure => omega
          case rel => exact ⟨i + 1, k, nb, by omega, Nat.le_refl _, by first | rfl | go_num, rfl, by go_num, by omega, HS'.out, rfl⟩
      · have hF := hbad (by unfold chkB; rw [hok, hc46, decide_eq_false (by omega), decide_eq_false (by omega)]; rfl)
        subst hF
        clear hstep hbad HS hlast hif hok hdd hsd hc45 hc46
        have x1 : ¬ (97 ≤ z) := by omega
        have x2 : 48 ≤ z := by omega
        have x3 : ¬ (z ≤ 57) := by omega
        have x4 : (z != 45) = true := by rw [bne_iff_ne]; omega
        have x5 : (z != 46) = true := by rw [bne_iff_ne]; omega
        go_wp2
        go_ret
        exact ⟨rfl, rfl⟩
      · have hck : chkB (prevOf s i) c (decide (i + 1 = s.length)) = true := by
          unfold chkB
          rw [hok, hc46, hsd, decide_eq_true (p := (97 ≤ z ∧ z ≤ 122) ∨ (48 ≤ z ∧ z ≤ 57) ∨ z = 45) (by omega), decide_eq_false (p := z = 46) (by omega), decide_eq_true (p := (97 ≤ z ∧ z ≤ 122) ∨ (48 ≤ z ∧ z ≤ 57)) (by omega)]
          have : pairB (prevOf s i) c = true := by
            unfold pairB
            split
            · rfl
            · rw [hc45, hc46, decide_eq_false (by omega), decide_eq_false (by omega)]; rfl
          rw [this]
          simp
        have hstep := hstep hck
        rw [hdd, if_neg (by rw [hif]; omega), decide_eq_false (by omega), Bool.and_false] at hstep
        clear hck
        have x1 : 97 ≤ z := by omega
        have x2 : z ≤ 122 := by omega
        have x3 : (z == 46) = false := by rw [beq_eq_false_iff_ne]; omega
        have x4 : (z == 45) = false := by rw [beq_eq_false_iff_ne]; omega
        have x5 : 48 ≤ z := by omega
        have x6 : ¬ (z ≤ 57) := by omega
        rcases (by omega : i = 0 ∨ (0 < i ∧ i + 1 = s.length) ∨ (0 < i ∧ i + 1 < s.length)) with hp | ⟨hp, hp'⟩ | ⟨hp, hp'⟩
        · subst hp
          clear hbad HS hlast hif hok hdd hsd hc45 hc46
          have HS' := Lib.hid hstep
          clear hstep
          have p0 : True := trivial
          go_wp2
          go_roundg (s.length - (0 + 1))
          case measure => omega
          case rel => exact ⟨0 + 1, k, false, by omega, Nat.le_refl _, by first | rfl | go_num, rfl, by go_num, by omega, HS'.out, rfl⟩
        · clear hbad HS hlast hif hok hdd hsd hc45 hc46
          have HS' := Lib.hid hstep
          clear hstep
          have p1 : ¬ ((i : Int) = 0) := by omega
          have p1n : ¬ (i = 0) := by omega
          have p2 : (s.length : Int) - 1 = (i : Int) := by omega
          have p3 : (0 : Int) < (i : Int) := by omega
          have p3n : 0 < i := by omega
          go_wp2
          go_roundg (s.length - (i + 1))
          case measure => omega
          case rel => exact ⟨i + 1, k, false, by omega, Nat.le_refl _, by first | rfl | go_num, rfl, by go_num, by omega, HS'.out, rfl⟩
        · clear hbad HS hlast hif hok hdd hsd hc45 hc46
          have HS' := Lib.hid hstep
          clear hstep
          have p1 : ¬ ((i : Int) = 0) := by omega
          have p1n : ¬ (i = 0) := by omega
          have p2 : ¬ ((i : Int) = (s.length : Int) - 1) := by omega
          have p3 : (0 : Int) < (i : Int) := by omega
          have p3n : 0 < i := by omega
          go_wp2
          go_roundg (s.length - (i + 1))
          case measure => omega
          case rel => exact ⟨i + 1, k, false, by omega, Nat.le_refl _, by first | rfl | go_num, rfl, by go_num, by omega, HS'.out, rfl⟩
      · have hF := hbad (by unfold chkB; rw [hok, hc46, decide_eq_false (by omega), decide_eq_false (by omega)]; rfl)
        subst hF
        clear hstep hbad HS hlast hif hok hdd hsd hc45 hc46
        have x1 : 97 ≤ z := by omega
        have x2 : ¬ (z ≤ 122) := by omega
        have x3 : 48 ≤ z := by omega
        have x4 : ¬ (z ≤ 57) := by omega
        have x5 : (z != 45) = true := by rw [bne_iff_ne]; omega
        have x6 : (z != 46) = true := by rw [bne_iff_ne]; omega
        go_wp2
        go_ret
        exact ⟨rfl, rfl⟩
    · obtain rfl : i = s.length := by omega
      have hd := HS.out.done hl
      rw [hR.out] at hd
      subst hd
      have q1 : ((k : Int) != 3) = (k != 3) := by
        rw [Bool.eq_iff_iff, bne_iff_ne, bne_iff_ne]; omega
      clear HS
      cases nb
      · go_wp2
        go_ret
        exact ⟨rfl, rfl⟩
      · cases hk3 : (k != 3)
        all_goals
          rw [hk3] at q1
          go_wp2
          go_ret
          exact ⟨by simp [hk3], rfl⟩

end Go.Proofs.YtajmkkjlhmeolaaGreatDoor
