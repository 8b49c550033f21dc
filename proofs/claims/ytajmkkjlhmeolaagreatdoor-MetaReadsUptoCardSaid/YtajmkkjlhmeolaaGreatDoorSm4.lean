/-
  SEVERAL SMALL TEXTS IN ONE.
-/
import Derived.Test.YtajmkkjlhmeolaaGreatDoorHex
import Derived.Test.YtajmkkjlhmeolaaGreatDoorSm0
import Derived.Lib.ItoaMem
import Derived.Test.YtajmkkjlhmeolaaGreatDoorMtPlain
import Derived.RegionTactic
import Derived.Lib.IndexBytes
import Derived.Lib.Strings
/-
  strconv.FormatInt at base 16, meta.Number.
-/
namespace Go.Proofs.YtajmkkjlhmeolaaGreatDoor
open Go.RowKit

set_option maxHeartbeats 400000 in
theorem iFormatInt16 (n : Nat) (hn : n ≤ 9223372036854775807) (w : World) (h : w.cell? ⟨8, 15, none⟩ = some (.int .u8 4)) :
    Calls Tryz.prog 93 #[.int .i64 n, .int .i64 16] w fun e w' => e = .returned (.string ⟨(hexL n).toArray⟩) ∧ Below w.heap.size w w' := by
  have HF := Lib.hid (formatBits16 n (by omega))
  have HT := Lib.hid h
  clear h
  go_enter Tryz.func93, Tryz.ntmps93
  go_wp2_with fail
  refine (HF.out _ HT.out).mono ?_
  rintro e w' ⟨rfl, hb⟩
  go_wp2
  go_ret
  exact ⟨rfl, hb⟩

set_option maxHeartbeats 400000 in
theorem formatInt16 (n : Nat) (hn : n ≤ 9223372036854775807) (w : World) (h : w.cell? ⟨8, 15, none⟩ = some (.int .u8 4)) :
    Calls Tryz.prog 53 #[.int .i64 n, .int .i64 16] w fun e w' => e = .returned (.string ⟨(hexL n).toArray⟩) ∧ Below w.heap.size w w' := by
  have HT := Lib.hid h
  clear h
  go_enter Tryz.func53, Tryz.ntmps53
  go_wp2_with fail
  refine (iFormatInt16 n hn _ HT.out).mono ?_
  rintro e w' ⟨rfl, hb⟩
  go_wp2
  go_ret
  exact ⟨rfl, hb⟩

theorem hexL_length (n : Nat) : ∀ k, n < 16 ^ (k + 1) → (hexL n).length ≤ k + 1 := by
  induction n using Nat.strongRecOn with
  | _ n ih =>
    intro k hk
    by_cases h : n < 16
    · rw [hexL_small h]; simp
    · rw [hexL_big (by omega)]
      cases k with
      | zero => simp at hk; omega
      | succ k =>
        have := ih (n / 16) (by omega) k (by rw [Nat.pow_succ] at hk; omega)
        simp; omega
theorem hexL_pos (n : Nat) : 0 < (hexL n).length := by
  by_cases h : n < 16
  · rw [hexL_small h]; simp
  · rw [hexL_big (by omega)]; simp

/-- what meta.Number tells: sixteen sixteenths, or nothing -/
def numText (n : Int) : List UInt8 := if 0 ≤ n ∧ n ≤ 9007199254740991 then List.replicate (16 - (hexL n.toNat).length) 48 ++ hexL n.toNat else []

theorem repeatL_one (x : UInt8) (c : Nat) : Lib.repeatL [x] c = List.replicate c x := by
  induction c with
  | zero => rfl
  | succ c ih => simp [Lib.repeatL, List.replicate_succ, ih]

set_option maxHeartbeats 400000 in
theorem number_any (n : Int) (h1 : IntOK n) (w : World) (h : w.cell? ⟨8, 15, none⟩ = some (.int .u8 4)) :
    Calls Tryz.prog 15 #[.int .i64 n] w fun e w' => e = .returned (.string ⟨(numText n).toArray⟩) ∧ Below w.heap.size w w' := by
  by_cases hn : 0 ≤ n ∧ n ≤ 9007199254740991
  · have HN : Hid (numText n = List.replicate (16 - (hexL n.toNat).length) 48 ++ hexL n.toNat) := by show _ = _; unfold numText; rw [if_pos hn]
    obtain ⟨hn1, hn2⟩ := hn
    obtain ⟨m, rfl⟩ := Int.eq_ofNat_of_zero_le hn1
    simp only [Int.toNat_natCast] at HN
    have hl := hexL_length m 13 (by omega)
    have hl0 := hexL_pos m
    have HF := Lib.hid (formatInt16 m (by omega))
    have HT := Lib.hid h
    clear h h1
    generalize hL : hexL m = L at *
    clear hL
    go_enter Tryz.func15, Tryz.ntmps15
    go_wp2_with fail
    refine (HF.out _ HT.out).mono ?_
    rintro e w1 ⟨rfl, hb1⟩
    go_wp2_with fail
    rw [show (16 - (L.length : Int)) = ((16 - L.length : Nat) : Int) from by omega]
    refine (Tryz.strings_Repeat ⟨#[48]⟩ (16 - L.length) _ (by omega) (by show 1 * _ ≤ _; omega)).mono ?_
    rintro e w2 ⟨rfl, hb2⟩
    have hr : Lib.repeatL (ByteArray.mk #[48]).data.toList (16 - L.length) = List.replicate (16 - L.length) 48 := repeatL_one 48 _
    rw [hr]
    have HR := Lib.hid hr
    clear hr
    generalize hR : List.replicate (16 - L.length) (48 : UInt8) = R at *
    have hRl : R.length ≤ 16 := by rw [← hR]; simp
    clear hR
    go_wp2
    go_ret
    refine ⟨?_, hb1.trans (hb2.mono hb1.size)⟩
    rw [HN.out]
    have : (⟨R.toArray⟩ : ByteArray) ++ ⟨L.toArray⟩ = ⟨(R ++ L).toArray⟩ := by
      apply ByteArray.ext
      simp
    rw [← this]; rfl
  · have HN : Hid (numText n = []) := by show _ = _; unfold numText; rw [if_neg hn]
    unfold IntOK at h1
    obtain ⟨h1a, h1b⟩ := h1
    have HT := Lib.hid h
    clear h
    by_cases hn0 : n < 0
    · clear hn
      go_enter Tryz.func15, Tryz.ntmps15
      go_wp2
      go_ret
      exact ⟨by rw [HN.out]; rfl, Below.refl _ _⟩
    · have hn1 : 9007199254740991 < n := by omega
      clear hn
      go_enter Tryz.func15, Tryz.ntmps15
      go_wp2
      go_ret
      exact ⟨by rw [HN.out]; rfl, Below.refl _ _⟩

end Go.Proofs.YtajmkkjlhmeolaaGreatDoor


/-
  What the listed package-level variables hold, as far as the walks want it; kept.
-/
namespace Go.Proofs.YtajmkkjlhmeolaaGreatDoor
open Go.RowKit

/-- what the listed variables hold, as far as the walks want it -/
structure Glob (w : World) : Prop where
  size : 6 ≤ w.heap.size
  tz : w.cell? ⟨8, 15, none⟩ = some (.int .u8 4)
  pow : Lib.TabIs Tryz.prog w "internal/strconv.uint64pow10" .u64 Lib.pow10Tab
  esyn : ∃ te pe, w.cell? ⟨1, 0, none⟩ = some (.iface te pe)
  eran : ∃ te pe, w.cell? ⟨2, 0, none⟩ = some (.iface te pe)

theorem Glob.later {w w' : World} (h : Glob w) (hb : Below w.heap.size w w') : Glob w' :=
  ⟨Nat.le_trans h.size hb.size, cell_later hb h.tz, var?_below (g := 3) hb (by kernel_rfl) (by have := h.size; omega) h.pow,
    by obtain ⟨a, b, c⟩ := h.esyn; exact ⟨a, b, cell_later hb c⟩, by obtain ⟨a, b, c⟩ := h.eran; exact ⟨a, b, cell_later hb c⟩⟩

end Go.Proofs.YtajmkkjlhmeolaaGreatDoor

/-
  Atoi, Itoa in this seat's own form.
-/
namespace Go.Proofs.YtajmkkjlhmeolaaGreatDoor
open Go.RowKit

theorem below_bytesWorld (w : World) (e : TypeId) (s : ByteArray) : Below w.heap.size w (Lib.bytesWorld w e s) := by
  refine ⟨?_, ?_, ?_, ?_, fun k hk => ?_⟩
  · unfold Lib.bytesWorld World.freeze; split <;> rfl
  · unfold Lib.bytesWorld World.freeze; split <;> rfl
  · unfold Lib.bytesWorld World.freeze; split <;> rfl
  · unfold Lib.bytesWorld World.freeze; split <;> simp
  · unfold Lib.bytesWorld World.freeze
    split
    · exact Below.heap_alloc _ _ _ hk
    · simp only [Array.getElem?_modify]
      rw [if_neg (by omega)]
      exact Below.heap_alloc w.drew _ _ hk

theorem below_grown' (w : World) (k : Nat) (os : Array Obj) : Below w.heap.size w (Sort.grow (w.drewN k) os) := by
  refine ⟨rfl, rfl, rfl, ?_, fun i hi => ?_⟩
  · show w.heap.size ≤ (w.heap ++ os).size
    simp
  · show (w.heap ++ os)[i]? = _
    rw [Array.getElem?_append_left hi]

theorem itoa_any (n : Int) (h : IntOK n) (w : World) (hg : Glob w) : Calls Tryz.prog 58 #[.int .i64 n] w fun e w' => e = .returned (.string ⟨(Lib.itoa n).toArray⟩) ∧ Below w.heap.size w w' := by
  refine (Tryz.strconv_Itoa n h.1 h.2 w hg.pow).mono ?_
  rintro e w' ⟨rfl, k, os, rfl⟩
  exact ⟨rfl, below_grown' _ _ _⟩

theorem atoi_ok (s : ByteArray) (v : Int) (hs : s.size ≤ 1000) (h : Lib.atoiAll s.data.toList = .ok v) (w : World) : Calls Tryz.prog 51 #[.string s] w fun e w' => e = .returned (.tuple #[.int .i64 v, .nilIface]) ∧ Below w.heap.size w w' := by
  refine (Tryz.strconv_Atoi_ok s (by omega) v h w).mono ?_
  rintro e w' ⟨rfl, rfl | ⟨t, rfl⟩⟩
  · exact ⟨rfl, Below.refl _ _⟩
  · refine ⟨rfl, below_bytesWorld _ _ _⟩

/-- .. at what is no number: an error -/
def AtoiBad (w : World) (e : Ending) (w' : World) : Prop := (∃ v N, e = .returned (.tuple #[.int .i64 v, .iface 156 (.pointer (some ⟨N, 0, none⟩))])) ∧ Below w.heap.size w w'
theorem atoi_bad (s : ByteArray) (hs : s.size ≤ 1000) (h : ∀ v, Lib.atoiAll s.data.toList ≠ .ok v) (w : World) (hg : Glob w) : Calls Tryz.prog 51 #[.string s] w (AtoiBad w) := by
  rcases hc : Lib.atoiAll s.data.toList with v | _ | _
  · exact absurd hc (h v)
  · obtain ⟨te, pe, hv⟩ := hg.esyn
    refine (Tryz.strconv_Atoi_syntax s (by omega) hc _ w hv (.inr ⟨te, pe, rfl⟩)).mono ?_
    rintro e w' ⟨N, rfl, _, _, hb⟩
    exact ⟨⟨_, N, rfl⟩, hb⟩
  · obtain ⟨te, pe, hv⟩ := hg.eran
    refine (Tryz.strconv_Atoi_range s (by omega) hc _ w hv (.inr ⟨te, pe, rfl⟩)).mono ?_
    rintro e w' ⟨N, rfl, _, _, hb⟩
    exact ⟨⟨_, N, rfl⟩, hb⟩

end Go.Proofs.YtajmkkjlhmeolaaGreatDoor

/-
  strings.Cut at one byte, at every text.
-/
namespace Go.Proofs.YtajmkkjlhmeolaaGreatDoor
open Go.RowKit

theorem belowDrewN {B : Nat} {a w : World} (h : Below B a w) (n : Nat) : Below B a (w.drewN n) := ⟨h.os, h.tape, h.output, h.size, h.block⟩
theorem extract_take (s : ByteArray) (i : Nat) : s.extract 0 i = ⟨(s.data.toList.take i).toArray⟩ := by
  have h := Lib.extract_data s 0 i
  rw [List.drop_zero, Nat.sub_zero] at h
  rw [← h]
theorem extract_drop (s : ByteArray) (i : Nat) : s.extract i s.size = ⟨(s.data.toList.drop i).toArray⟩ := by
  have h := Lib.extract_to_end s i
  rw [← h]

set_option maxHeartbeats 1000000 in
theorem slcut_any (s : ByteArray) (c : UInt8) (w : World) (hs : s.size ≤ 9223372036854775806) :
    Calls Tryz.prog 89 #[.string s, .string ⟨#[c]⟩] w fun e w' => e = .returned (.tuple #[.string ⟨(cut1 s.data.toList c).1.toArray⟩, .string ⟨(cut1 s.data.toList c).2.1.toArray⟩, .bool (cut1 s.data.toList c).2.2]) ∧ ∃ n, w' = w.drewN n := by
  have hl : s.data.toList.length = s.size := by simp
  rcases indexByte_cases s.data.toList c with ⟨h1, h2⟩ | ⟨i, hi, hlt, _, _⟩
  · have HC : Hid (cut1 s.data.toList c = (s.data.toList, [], false)) := cut1_no h2
    have H1 := Lib.hid h1
    clear h1 h2 hl
    go_enter Tryz.func89, Tryz.ntmps89
    go_wp2_with fail
    refine (Tryz.stringslite_Index_one _ _ _).mono ?_
    rintro e w' ⟨rfl, rfl⟩
    rw [H1.out]
    go_wp2
    go_ret3
    rw [HC.out]
    exact ⟨rfl, 0, rfl⟩
  · have HC : Hid (cut1 s.data.toList c = (s.data.toList.take i, s.data.toList.drop (i + 1), true)) := by
      show _ = _
      unfold cut1
      rw [hi, if_pos (by omega)]; rfl
    have H1 := Lib.hid hi
    have c1 : (0 : Int) ≤ (i : Int) := by omega
    have c2 : (i : Int) ≤ (s.size : Int) := by omega
    have c3 : (0 : Int) ≤ (i : Int) + 1 := by omega
    have c4 : (i : Int) + 1 ≤ (s.size : Int) := by omega
    clear hi hl
    go_enter Tryz.func89, Tryz.ntmps89
    go_wp2_with fail
    refine (Tryz.stringslite_Index_one _ _ _).mono ?_
    rintro e w' ⟨rfl, rfl⟩
    rw [H1.out]
    go_wp2
    go_region
    go_wp2
    go_ret3
    rw [HC.out]
    exact ⟨by rw [← extract_take, ← extract_drop s (i + 1)]; rfl, 1, rfl⟩

set_option maxHeartbeats 1000000 in
theorem cut_any (s : ByteArray) (c : UInt8) (w : World) (hs : s.size ≤ 9223372036854775806) :
    Calls Tryz.prog 49 #[.string s, .string ⟨#[c]⟩] w fun e w' => e = .returned (.tuple #[.string ⟨(cut1 s.data.toList c).1.toArray⟩, .string ⟨(cut1 s.data.toList c).2.1.toArray⟩, .bool (cut1 s.data.toList c).2.2]) ∧ ∃ n, w' = w.drewN n := by
  go_enter Tryz.func49, Tryz.ntmps49
  go_wp2_with fail
  refine (slcut_any s c _ hs).mono ?_
  rintro e w' ⟨rfl, n, rfl⟩
  go_wp2
  go_ret3
  exact ⟨rfl, n, rfl⟩

end Go.Proofs.YtajmkkjlhmeolaaGreatDoor
