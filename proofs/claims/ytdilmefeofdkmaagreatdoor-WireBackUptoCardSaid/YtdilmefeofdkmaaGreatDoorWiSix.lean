/-
  WIRE: sixteenths of the statements' package.
-/
import Derived.Test.YtdilmefeofdkmaaGreatDoorWiChunkP
import Derived.Test.YtdilmefeofdkmaaGreatDoorWxEnc1
namespace Go.Proofs.YtdilmefeofdkmaaGreatDoor
open Go.RowKit Go.PlainAid

def sixT (up : Bool) : ByteArray := if up then ⟨#[48, 49, 50, 51, 52, 53, 54, 55, 56, 57, 65, 66, 67, 68, 69, 70]⟩ else ⟨#[48, 49, 50, 51, 52, 53, 54, 55, 56, 57, 97, 98, 99, 100, 101, 102]⟩
theorem six_text (up : Bool) (d : Nat) (h : d < 16) : (sixT up).extract d (d + 1) = ⟨#[sixD up d]⟩ := by
  have : ∀ (u : Bool) (k : Fin 16), (sixT u).extract k.val (k.val + 1) = ⟨#[sixD u k.val]⟩ := by decide +kernel
  exact this up ⟨d, h⟩
def SixOut (up : Bool) (n : Nat) (w : World) (e : Ending) (w' : World) : Prop := e = .returned (.string ⟨(sixL up n).toArray⟩) ∧ ∃ m, w' = w.drewN m

set_option maxHeartbeats 1000000 in
theorem sixteenths_small (up : Bool) (n : Nat) (w : World) (h : n < 16) : Calls Tryz.prog 31 #[.int .i64 n, .bool up] w (SixOut up n w) := by
  have e : sixL up n = [sixD up n] := by rw [sixL, dif_pos h]
  have hd := Lib.hid (six_text up n h)
  unfold SixOut
  rw [e]
  clear e
  cases up
  · go_enter Tryz.func31, Tryz.ntmps31
    go_wp2
    go_ret
    exact ⟨by rw [← hd.out]; rfl, 0, rfl⟩
  · go_enter Tryz.func31, Tryz.ntmps31
    go_wp2
    go_ret
    exact ⟨by rw [← hd.out]; rfl, 0, rfl⟩

set_option maxHeartbeats 2000000 in
theorem sixteenths_step (up : Bool) (n : Nat) (w : World) (h : 16 ≤ n) (hn : n ≤ 60000)
    (ih : ∀ W, Calls Tryz.prog 31 #[.int .i64 (n / 16 : Nat), .bool up] W (SixOut up (n / 16) W)) :
    Calls Tryz.prog 31 #[.int .i64 n, .bool up] w (SixOut up n w) := by
  have IH : Hid (∀ W, Calls Tryz.prog 31 #[.int .i64 (n / 16 : Nat), .bool up] W fun e w' => e = .returned (.string ⟨(sixL up (n / 16)).toArray⟩) ∧ ∃ m, w' = W.drewN m) := ih
  have hd := Lib.hid (six_text up (n % 16) (by omega))
  have e : Hid ((⟨(sixL up n).toArray⟩ : ByteArray) = ⟨(sixL up (n / 16)).toArray⟩ ++ ⟨#[sixD up (n % 16)]⟩) := by
    show _ = _
    rw [sixL, dif_neg (by omega)]
    apply ByteArray.ext
    apply Array.ext'
    simp
  have f1 : (n : Int).tdiv 16 = ((n / 16 : Nat) : Int) := by rw [Int.tdiv_eq_ediv_of_nonneg (by omega)]; omega
  have f2 : (n : Int).tmod 16 = ((n % 16 : Nat) : Int) := by rw [Int.tmod_eq_emod_of_nonneg (by omega)]; omega
  have f3 : IntKind.i64.wrap (((n % 16 : Nat) : Int) + 1) = ((n % 16 : Nat) : Int) + 1 := by go_arith
  have f4 : IntKind.i64.wrap ((n / 16 : Nat) : Int) = ((n / 16 : Nat) : Int) := by go_arith
  have f5 : IntKind.i64.wrap ((n % 16 : Nat) : Int) = ((n % 16 : Nat) : Int) := by go_arith
  obtain ⟨q, hq⟩ : ∃ q : Nat, q = n / 16 := ⟨_, rfl⟩
  obtain ⟨r, hr⟩ : ∃ r : Nat, r = n % 16 := ⟨_, rfl⟩
  have hr10 : r < 16 := by omega
  obtain ⟨X, hX⟩ : ∃ X : ByteArray, (⟨(sixL up (n / 16)).toArray⟩ : ByteArray) = X := ⟨_, rfl⟩
  obtain ⟨Y, hY⟩ : ∃ Y : ByteArray, (⟨(sixL up n).toArray⟩ : ByteArray) = Y := ⟨_, rfl⟩
  have hXs : X.size ≤ 1000 := by
    rw [← hX]
    have := six_len up 3 (n / 16) (by omega)
    show (sixL up (n / 16)).toArray.size ≤ 1000
    simp; omega
  unfold SixOut
  rw [hY]
  rw [hX] at IH e
  rw [hY] at e
  rw [← hq] at IH f1 f4
  rw [← hr] at hd e f2 f3 f5
  have g1 : (0 : Int) ≤ (r : Int) + 1 := by omega
  have g2 : ((r : Int) + 1).toNat = r + 1 := by omega
  have g4 : ¬ 9223372036854775807 < X.size + (min (r + 1) 16 - r) := by omega
  clear hn hX hY hq hr ih
  cases up
  · have g3 : (ByteArray.mk #[48, 49, 50, 51, 52, 53, 54, 55, 56, 57, 97, 98, 99, 100, 101, 102]).size = 16 := rfl
    go_enter Tryz.func31, Tryz.ntmps31
    go_wp2
    go_quiet ((go_at_call 31; exact Calls.quiet_of (IH.out _)))
    go_wp2
    go_ret
    rw [e.out, ← hd.out]
    exact ⟨rfl, _, rfl⟩
  · have g3 : (ByteArray.mk #[48, 49, 50, 51, 52, 53, 54, 55, 56, 57, 65, 66, 67, 68, 69, 70]).size = 16 := rfl
    go_enter Tryz.func31, Tryz.ntmps31
    go_wp2
    go_quiet ((go_at_call 31; exact Calls.quiet_of (IH.out _)))
    go_wp2
    go_ret
    rw [e.out, ← hd.out]
    exact ⟨rfl, _, rfl⟩

theorem sixteenths_any (up : Bool) : ∀ (n : Nat) (w : World), n ≤ 60000 → Calls Tryz.prog 31 #[.int .i64 n, .bool up] w (SixOut up n w) := by
  intro n
  induction n using Nat.strongRecOn with
  | _ n ih =>
    intro w hn
    by_cases h : n < 16
    · exact sixteenths_small up n w h
    · exact sixteenths_step up n w (by omega) hn (fun W => ih (n / 16) (by omega) W (by omega))
end Go.Proofs.YtdilmefeofdkmaaGreatDoor
