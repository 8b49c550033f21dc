/-
  storehouseref15: scan.char, Plain, first, more.
-/
import Derived.Test.YtnnfcbebjbfkoaaDoorRxUtf
import Derived.Deep.LoopGhost
namespace Go.Proofs.YtnnfcbebjbfkoaaDoor
open Go.RowKit Go.PlainAid

/-- a character that XML knows: its bytes; 0: none -/
def charN (s : ByteArray) (i : Nat) : Int :=
  if utfN s i = 0 then 0
  else if utfN s i = 1 ∧ bt s i < 32 ∧ bt s i ≠ 9 ∧ bt s i ≠ 10 ∧ bt s i ≠ 13 then 0
  else if (s.extract i (i + (utfN s i).toNat)).toList = [239, 191, 190] ∨ (s.extract i (i + (utfN s i).toNat)).toList = [239, 191, 191] then 0
  else utfN s i

set_option maxHeartbeats 1000000 in
theorem char_any (s : ByteArray) (i b : Nat) (w : World) (hs : s.size ≤ 140737488351232) (hi : i < s.size)
    (h0 : w.cell? ⟨b, 0, none⟩ = some (.string s)) (h1 : w.cell? ⟨b, 1, none⟩ = some (.int .i64 i)) :
    Calls Tryd.prog 72 #[.pointer (some ⟨b, 0, none⟩)] w fun e w' => e = .returned (.int .i64 (charN s i)) ∧ ∃ n, w' = w.drewN n := by
  have hb := get_bt s
  have U := Lib.hid (fun w => (utf_any s i w hs (by omega)).mono (fun _ _ h => (⟨h.1, h.2.symm⟩ : _ ∧ _)))
  have bd := utfN_bd s i
  obtain ⟨n, hn⟩ : ∃ n : Nat, Hid (utfN s i = n) := ⟨(utfN s i).toNat, by show _ = _; omega⟩
  rw [hn.out] at U bd
  obtain ⟨_, n4, nb⟩ := bd
  by_cases hz : n = 0
  · subst hz
    have e : charN s i = 0 := by unfold charN; rw [if_pos (by rw [hn.out]; rfl)]
    rw [e]
    go_enter Tryd.func72, Tryd.ntmps72
    go_wp2
    go_quiet ((go_at_call 82; exact Calls.quiet_of_same (U.out _)))
    go_wp2
    go_ret
    exact ⟨rfl, _, rfl⟩
  · have hn0 : ((n : Int) == 0) = false := beq_eq_false_iff_ne.2 (by omega)
    have hle : i + n ≤ s.size := by have := nb (by omega); omega
    have E : Hid (charN s i = if (n : Int) = 1 ∧ bt s i < 32 ∧ bt s i ≠ 9 ∧ bt s i ≠ 10 ∧ bt s i ≠ 13 then 0 else if (s.extract i (i + n)).toList = [239, 191, 190] ∨ (s.extract i (i + n)).toList = [239, 191, 191] then 0 else (n : Int)) := by
      show _ = _
      unfold charN
      rw [hn.out, if_neg (by omega), Int.toNat_natCast]
    have hb2 := get_bt (s.extract i (i + n))
    have hx : bt (s.extract i (i + n)) 0 = bt s i := by
      have hl : 0 < (s.extract i (i + n)).size := by rw [ByteArray.size_extract]; omega
      unfold bt
      rw [dif_pos hl, dif_pos hi]
      congr 2
      rw [ByteArray.getElem_extract]
      simp
    clear nb
    go_enter Tryd.func72, Tryd.ntmps72
    go_wp2
    go_quiet ((go_at_call 82; exact Calls.quiet_of_same (U.out _)))
    go_wp2
    go_quiet (fail)
    go_wp2
    all_goals
      go_ret
      refine ⟨ret_i64 ?_, _, rfl⟩
      rw [E.out]
      clear E hb hb2 hx U
      (repeat' split) <;> first | rfl | omega | (exfalso; simp_all; done) | (exfalso; simp_all; omega)

theorem charN_bd (s : ByteArray) (i : Nat) : 0 ≤ charN s i ∧ charN s i ≤ 4 ∧ (0 < charN s i → i + charN s i ≤ s.size) := by
  have h := utfN_bd s i
  unfold charN
  (repeat' split) <;> omega

def plainTo (s : ByteArray) : Nat → Nat → Bool
  | 0, _ => true
  | f + 1, i => if s.size ≤ i then true else if charN s i = 0 then false else plainTo s f (i + (charN s i).toNat)
/-- a text of characters that XML knows -/
def plainB (s : ByteArray) : Bool := plainTo s s.size 0
theorem plainTo_end (s : ByteArray) (f : Nat) : plainTo s f s.size = true := by
  cases f with
  | zero => rfl
  | succ f => unfold plainTo; rw [if_pos (Nat.le_refl _)]

theorem ret_bool {a b : Bool} (h : a = b) : Ending.returned (.bool a) = .returned (.bool b) := by rw [h]

set_option maxHeartbeats 1000000 in
theorem plain_any (s : ByteArray) (w : World) (hs : s.size ≤ 140737488351232) :
    Calls Tryd.prog 62 #[.string s] w fun e w' => e = .returned (.bool (plainB s)) ∧ Below w.heap.size w w' := by
  obtain ⟨res, hres⟩ : ∃ res, Hid (plainB s = res) := ⟨_, rfl⟩
  rw [hres.out]
  go_enter Tryd.func62, Tryd.ntmps62
  go_wp2
  go_loopg [4] s.size (fun gg _ wr => ∃ i : Nat, i ≤ s.size ∧ s.size - i ≤ gg ∧ Hid (wr.heap[w.heap.size]? = some (.cells #[.string s, .int .i64 i, .int .i64 0, .int .i64 0] 121 (0, 0))) ∧ Hid (Below w.heap.size w wr) ∧ Hid (∃ f, s.size - i ≤ f ∧ res = plainTo s f i))
  case atStart => exact ⟨0, Nat.zero_le _, by omega, (show Hid _ from heap_alloc_new _ _), (show Hid _ from below_alloc (Below.refl _ _) (Nat.le_refl _) _), (show Hid _ from ⟨s.size, by omega, hres.out.symm⟩)⟩
  case round =>
    obtain ⟨i, hin, hgg, HH, HB, HF⟩ := hrel
    have q0 : wr.cell? ⟨w.heap.size, 0, none⟩ = some (.string s) := cell_of_heap HH.out
    have q1 : wr.cell? ⟨w.heap.size, 1, none⟩ = some (.int .i64 i) := cell_of_heap HH.out
    have fz : wr.frozen? ⟨w.heap.size, 1, none⟩ = false := free_of_heap HH.out
    by_cases hlt : i < s.size
    · have hltz : (i : Int) < (s.size : Int) := by omega
      have hc := Lib.hid (char_any s i w.heap.size wr hs hlt q0 q1)
      obtain ⟨c1, c2, c3⟩ := charN_bd s i
      obtain ⟨n, hn⟩ : ∃ n : Nat, Hid (charN s i = n) := ⟨(charN s i).toNat, by show _ = _; omega⟩
      rw [hn.out] at hc c1 c2 c3
      go_wp2_with fail
      refine hc.out.mono ?_
      rintro e w' ⟨rfl, k, rfl⟩
      by_cases hz : n = 0
      · have hr : Hid (res = false) := by
          obtain ⟨f, h1, h2⟩ := HF.out
          show _ = _
          rw [h2]
          cases f with
          | zero => omega
          | succ f => unfold plainTo; rw [if_neg (by omega), if_pos (by rw [hn.out]; omega)]
        subst hz
        go_wp2
        go_ret
        rw [hr.out]
        exact ⟨rfl, below_drewN HB.out _⟩
      · have hz' : ((n : Int) == 0) = false := beq_eq_false_iff_ne.2 (by omega)
        have hle : i + n ≤ s.size := by have := c3 (by omega); omega
        clear hc c3
        go_wp2
        go_roundg (s.size - (i + n))
        case measure => omega
        case rel =>
          refine ⟨i + n, hle, Nat.le_refl _, (show Hid _ from ?_), (show Hid _ from (below_drewN HB.out _).setCell (Nat.le_refl _) _), (show Hid _ from ?_)⟩
          · have := heap_set (x := 1) (show (wr.drewN k).heap[w.heap.size]? = _ from HH.out) (.int .i64 (i + n : Nat))
            show _ = _
            simpa using this
          · obtain ⟨f, h1, h2⟩ := HF.out
            cases f with
            | zero => omega
            | succ f =>
              refine ⟨f, by omega, ?_⟩
              rw [h2]
              rw [plainTo, if_neg (by omega), if_neg (by rw [hn.out]; omega), hn.out, Int.toNat_natCast]
    · obtain rfl : i = s.size := by omega
      have hr : Hid (res = true) := by
        obtain ⟨f, _, h2⟩ := HF.out
        show _ = _
        rw [h2, plainTo_end]
      go_wp2
      go_ret
      rw [hr.out]
      exact ⟨rfl, HB.out⟩

/-- may a name begin with a byte, go on with it -/
def firstB (c : Int) : Bool := decide ((65 ≤ c ∧ c ≤ 90) ∨ (97 ≤ c ∧ c ≤ 122) ∨ c = 95)
def moreB (c : Int) : Bool := firstB c || decide ((48 ≤ c ∧ c ≤ 57) ∨ c = 45 ∨ c = 46)

theorem first_any (c : Int) (w : World) (h0 : 0 ≤ c) (h1 : c ≤ 255) :
    Calls Tryd.prog 60 #[.int .u8 c] w fun e w' => e = .returned (.bool (firstB c)) ∧ w = w' := by
  go_enter Tryd.func60, Tryd.ntmps60
  go_wp2
  all_goals
    go_ret
    refine ⟨ret_bool ?_, rfl⟩
    unfold firstB
    first | (symm; simp; omega) | (simp; omega) | (rw [Bool.eq_iff_iff]; simp; omega)

theorem more_any (c : Int) (w : World) (h0 : 0 ≤ c) (h1 : c ≤ 255) :
    Calls Tryd.prog 61 #[.int .u8 c] w fun e w' => e = .returned (.bool (moreB c)) ∧ w = w' := by
  have hf := Lib.hid (first_any c w h0 h1)
  cases hfb : firstB c
  all_goals
    rw [hfb] at hf
    go_enter Tryd.func61, Tryd.ntmps61
    go_wp2_with fail
    refine hf.out.mono ?_
    rintro e w' ⟨rfl, rfl⟩
    go_wp2
    all_goals
      go_ret
      refine ⟨ret_bool ?_, rfl⟩
      unfold moreB
      first | (rw [hfb]; first | rfl | (symm; simp; omega) | (simp; omega) | (rw [Bool.eq_iff_iff]; simp; omega)) | rfl | (simp; done) | decide

end Go.Proofs.YtnnfcbebjbfkoaaDoor
