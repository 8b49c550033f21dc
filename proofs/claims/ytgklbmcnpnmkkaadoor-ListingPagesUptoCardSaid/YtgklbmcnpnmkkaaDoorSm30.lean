/-
  SEVERAL SMALL TEXTS IN ONE.
-/
import Derived.Test.YtgklbmcnpnmkkaaDoorHex
import Derived.Test.YtgklbmcnpnmkkaaDoorBase
import Derived.Lib.ItoaMem
/-
  strconv.FormatInt at base 16, meta.Number.
-/
namespace Go.Proofs.YtgklbmcnpnmkkaaDoor
open Go.RowKit

set_option maxHeartbeats 400000 in
theorem iFormatInt16 (n : Nat) (hn : n ≤ 9223372036854775807) (w : World) (h : w.cell? ⟨5, 15, none⟩ = some (.int .u8 4)) :
    Calls Tryd.prog 59 #[.int .i64 n, .int .i64 16] w fun e w' => e = .returned (.string ⟨(hexL n).toArray⟩) ∧ Below w.heap.size w w' := by
  have HF := Lib.hid (formatBits16 n (by omega))
  have HT := Lib.hid h
  clear h
  go_enter Tryd.func59, Tryd.ntmps59
  go_wp2_with fail
  refine (HF.out _ HT.out).mono ?_
  rintro e w' ⟨rfl, hb⟩
  go_wp2
  go_ret
  exact ⟨rfl, hb⟩

set_option maxHeartbeats 400000 in
theorem formatInt16 (n : Nat) (hn : n ≤ 9223372036854775807) (w : World) (h : w.cell? ⟨5, 15, none⟩ = some (.int .u8 4)) :
    Calls Tryd.prog 47 #[.int .i64 n, .int .i64 16] w fun e w' => e = .returned (.string ⟨(hexL n).toArray⟩) ∧ Below w.heap.size w w' := by
  have HT := Lib.hid h
  clear h
  go_enter Tryd.func47, Tryd.ntmps47
  go_wp2_with fail
  refine (iFormatInt16 n hn _ HT.out).mono ?_
  rintro e w' ⟨rfl, hb⟩
  go_wp2
  go_ret
  exact ⟨rfl, hb⟩

theorem hexL_length (n : Nat) : ∀ k, n < 16 ^ (k + 1) → (hexL n).length ≤ k + 1 := by
  induction n using Nat.strongRecOn with
  | _ n ih =>
    intro k hk
    by_cases h : n < 16
    · rw [hexL_small h]; simp
    · rw [hexL_big (by omega)]
      cases k with
      | zero => simp at hk; omega
      | succ k =>
        have := ih (n / 16) (by omega) k (by rw [Nat.pow_succ] at hk; omega)
        simp; omega
theorem hexL_pos (n : Nat) : 0 < (hexL n).length := by
  by_cases h : n < 16
  · rw [hexL_small h]; simp
  · rw [hexL_big (by omega)]; simp

/-- what meta.Number tells: sixteen sixteenths, or nothing -/
def numText (n : Int) : List UInt8 := if 0 ≤ n ∧ n ≤ 9007199254740991 then List.replicate (16 - (hexL n.toNat).length) 48 ++ hexL n.toNat else []

theorem repeatL_one (x : UInt8) (c : Nat) : Lib.repeatL [x] c = List.replicate c x := by
  induction c with
  | zero => rfl
  | succ c ih => simp [Lib.repeatL, List.replicate_succ, ih]

set_option maxHeartbeats 400000 in
theorem number_any (n : Int) (h1 : IntOK n) (w : World) (h : w.cell? ⟨5, 15, none⟩ = some (.int .u8 4)) :
    Calls Tryd.prog 31 #[.int .i64 n] w fun e w' => e = .returned (.string ⟨(numText n).toArray⟩) ∧ Below w.heap.size w w' := by
  by_cases hn : 0 ≤ n ∧ n ≤ 9007199254740991
  · have HN : Hid (numText n = List.replicate (16 - (hexL n.toNat).length) 48 ++ hexL n.toNat) := by show _ = _; unfold numText; rw [if_pos hn]
    obtain ⟨hn1, hn2⟩ := hn
    obtain ⟨m, rfl⟩ := Int.eq_ofNat_of_zero_le hn1
    simp only [Int.toNat_natCast] at HN
    have hl := hexL_length m 13 (by omega)
    have hl0 := hexL_pos m
    have HF := Lib.hid (formatInt16 m (by omega))
    have HT := Lib.hid h
    clear h h1
    generalize hL : hexL m = L at *
    clear hL
    go_enter Tryd.func31, Tryd.ntmps31
    go_wp2_with fail
    refine (HF.out _ HT.out).mono ?_
    rintro e w1 ⟨rfl, hb1⟩
    go_wp2_with fail
    rw [show (16 - (L.length : Int)) = ((16 - L.length : Nat) : Int) from by omega]
    refine (Tryd.strings_Repeat ⟨#[48]⟩ (16 - L.length) _ (by omega) (by show 1 * _ ≤ _; omega)).mono ?_
    rintro e w2 ⟨rfl, hb2⟩
    have hr : Lib.repeatL (ByteArray.mk #[48]).data.toList (16 - L.length) = List.replicate (16 - L.length) 48 := repeatL_one 48 _
    rw [hr]
    have HR := Lib.hid hr
    clear hr
    generalize hR : List.replicate (16 - L.length) (48 : UInt8) = R at *
    have hRl : R.length ≤ 16 := by rw [← hR]; simp
    clear hR
    go_wp2
    go_ret
    refine ⟨?_, hb1.trans (hb2.mono hb1.size)⟩
    rw [HN.out]
    have : (⟨R.toArray⟩ : ByteArray) ++ ⟨L.toArray⟩ = ⟨(R ++ L).toArray⟩ := by
      apply ByteArray.ext
      simp
    rw [← this]; rfl
  · have HN : Hid (numText n = []) := by show _ = _; unfold numText; rw [if_neg hn]
    unfold IntOK at h1
    obtain ⟨h1a, h1b⟩ := h1
    have HT := Lib.hid h
    clear h
    by_cases hn0 : n < 0
    · clear hn
      go_enter Tryd.func31, Tryd.ntmps31
      go_wp2
      go_ret
      exact ⟨by rw [HN.out]; rfl, Below.refl _ _⟩
    · have hn1 : 9007199254740991 < n := by omega
      clear hn
      go_enter Tryd.func31, Tryd.ntmps31
      go_wp2
      go_ret
      exact ⟨by rw [HN.out]; rfl, Below.refl _ _⟩

end Go.Proofs.YtgklbmcnpnmkkaaDoor


/-
  What the listed package-level variables hold, as far as the walks want it; kept.
-/
namespace Go.Proofs.YtgklbmcnpnmkkaaDoor
open Go.RowKit

/-- what the listed variables hold, as far as the walks want it -/
structure Glob (w : World) : Prop where
  size : 6 ≤ w.heap.size
  tz : w.cell? ⟨5, 15, none⟩ = some (.int .u8 4)
  pow : Lib.TabIs Tryd.prog w "internal/strconv.uint64pow10" .u64 Lib.pow10Tab
  esyn : ∃ te pe, w.cell? ⟨2, 0, none⟩ = some (.iface te pe)
  eran : ∃ te pe, w.cell? ⟨3, 0, none⟩ = some (.iface te pe)

theorem Glob.later {w w' : World} (h : Glob w) (hb : Below w.heap.size w w') : Glob w' :=
  ⟨Nat.le_trans h.size hb.size, cell_later hb h.tz, var?_below (g := 1) hb (by kernel_rfl) (by have := h.size; omega) h.pow,
    by obtain ⟨a, b, c⟩ := h.esyn; exact ⟨a, b, cell_later hb c⟩, by obtain ⟨a, b, c⟩ := h.eran; exact ⟨a, b, cell_later hb c⟩⟩

end Go.Proofs.YtgklbmcnpnmkkaaDoor

/-
  Atoi, Itoa in this seat's own form.
-/
namespace Go.Proofs.YtgklbmcnpnmkkaaDoor
open Go.RowKit

theorem below_bytesWorld (w : World) (e : TypeId) (s : ByteArray) : Below w.heap.size w (Lib.bytesWorld w e s) := by
  refine ⟨?_, ?_, ?_, ?_, fun k hk => ?_⟩
  · unfold Lib.bytesWorld World.freeze; split <;> rfl
  · unfold Lib.bytesWorld World.freeze; split <;> rfl
  · unfold Lib.bytesWorld World.freeze; split <;> rfl
  · unfold Lib.bytesWorld World.freeze; split <;> simp
  · unfold Lib.bytesWorld World.freeze
    split
    · exact Below.heap_alloc _ _ _ hk
    · simp only [Array.getElem?_modify]
      rw [if_neg (by omega)]
      exact Below.heap_alloc w.drew _ _ hk

theorem below_grown' (w : World) (k : Nat) (os : Array Obj) : Below w.heap.size w (Sort.grow (w.drewN k) os) := by
  refine ⟨rfl, rfl, rfl, ?_, fun i hi => ?_⟩
  · show w.heap.size ≤ (w.heap ++ os).size
    simp
  · show (w.heap ++ os)[i]? = _
    rw [Array.getElem?_append_left hi]

end Go.Proofs.YtgklbmcnpnmkkaaDoor
