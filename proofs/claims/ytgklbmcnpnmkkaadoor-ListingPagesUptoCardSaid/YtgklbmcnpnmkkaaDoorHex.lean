/-
  strconv.FormatInt at base 16, meta.Number.
-/
import Derived.Test.YtgklbmcnpnmkkaaDoorBase
import Derived.Test.YtgklbmcnpnmkkaaDoorShelf
import Derived.Lib.LaidTab
import Derived.Deep.LoopGhost
namespace Go.Proofs.YtgklbmcnpnmkkaaDoor
open Go.RowKit

/-- the table that TrailingZeros64 reads -/
def db64 : List Int := [0, 1, 56, 2, 57, 49, 28, 3, 61, 58, 42, 50, 38, 29, 17, 4, 62, 47, 59, 36, 45, 43, 51, 22, 53, 39, 33, 30, 24, 18, 12, 5, 63, 55, 48, 27, 60, 41, 37, 16, 46, 35, 44, 21, 52, 32, 23, 11, 54, 26, 40, 15, 34, 20, 31, 10, 25, 14, 19, 9, 13, 8, 7, 6]

set_option maxHeartbeats 400000 in
theorem tz16 (w : World) (h : w.cell? ⟨5, 15, none⟩ = some (.int .u8 4)) :
    Calls Tryd.prog 96 #[.int .u64 16] w fun e w' => e = .returned (.int .i64 4) ∧ w' = w := by
  have he : IntKind.u64.wrap (bits BinOp.and IntKind.u64 16 (IntKind.u64.wrap (-16)) * 285870213051353865) / 288230376151711744 = 15 := by kernel_rfl
  go_enter Tryd.func96, Tryd.ntmps96
  go_wp2
  go_ret
  exact ⟨rfl, rfl⟩

/-- n's digits to the base 16 -/
def hexD (d : Nat) : UInt8 := if d < 10 then (48 + d).toUInt8 else (87 + d).toUInt8
def hexL (n : Nat) : List UInt8 := if _h : n < 16 then [hexD n] else hexL (n / 16) ++ [hexD (n % 16)]
termination_by n
decreasing_by omega

theorem hexL_small {n : Nat} (h : n < 16) : hexL n = [hexD n] := by rw [hexL, dif_pos h]
theorem hexL_big {n : Nat} (h : 16 ≤ n) : hexL n = hexL (n / 16) ++ [hexD (n % 16)] := by rw [hexL, dif_neg (by omega)]

/-- the row of 65 bytes holds ds at its end -/
def EndIs (cu : Array Value) (ds : List UInt8) : Prop := cu.size = 65 ∧ ds.length ≤ 65 ∧ ∀ j (h : j < ds.length), cu[65 - ds.length + j]? = some (.int .u8 (ds[j].toNat : Int))
theorem EndIs.push {cu : Array Value} {ds : List UInt8} (h : EndIs cu ds) (d : UInt8) (hl : ds.length < 65) : EndIs (cu.setIfInBounds (64 - ds.length) (.int .u8 (d.toNat : Int))) (d :: ds) := by
  obtain ⟨h1, h2, h3⟩ := h
  refine ⟨by simp [h1], by simp; omega, fun j hj => ?_⟩
  simp only [List.length_cons] at *
  cases j with
  | zero =>
    rw [show 65 - (ds.length + 1) + 0 = 64 - ds.length from by omega, Array.getElem?_setIfInBounds_self_of_lt (by omega)]
    rfl
  | succ j =>
    have hj' : j < ds.length := by simp at hj; omega
    have := h3 j hj'
    rw [Array.getElem?_setIfInBounds_ne (by omega), show 65 - (ds.length + 1) + (j + 1) = 65 - ds.length + j from by omega, this]
    rfl

theorem pow16 (w : World) : Calls Tryd.prog 95 #[.int .i64 16] w fun e w' => e = .returned (.bool true) ∧ w' = w := by
  have hp : bits BinOp.and IntKind.i64 16 15 = 0 := by kernel_rfl
  go_enter Tryd.func95, Tryd.ntmps95
  go_wp2
  go_ret
  exact ⟨rfl, rfl⟩

theorem and15 (u : Nat) (h : u < 18446744073709551616) : bits .and .u64 (u : Int) 15 = ((u % 16 : Nat) : Int) := by
  have h0 : (0 : Int) ≤ (u : Int) := by omega
  have h1 : (u : Int) < 18446744073709551616 := by omega
  have : bits .and .u64 (u : Int) 15 = (u : Int) % 16 := by
    rw [u64_and _ _ h0 h1 (by omega) (by omega)]
    have : (u : Int).toNat &&& (15 : Int).toNat = u % 16 := by
      simpa using Nat.and_two_pow_sub_one_eq_mod u 4
    rw [this]; omega
  rw [this]; omega

theorem dig_get : ∀ (x : Nat) (_ : x < 16) (h : x < (⟨#[48, 49, 50, 51, 52, 53, 54, 55, 56, 57, 97, 98, 99, 100, 101, 102, 103, 104, 105, 106, 107, 108, 109, 110, 111, 112, 113, 114, 115, 116, 117, 118, 119, 120, 121, 122]⟩ : ByteArray).size), (⟨#[48, 49, 50, 51, 52, 53, 54, 55, 56, 57, 97, 98, 99, 100, 101, 102, 103, 104, 105, 106, 107, 108, 109, 110, 111, 112, 113, 114, 115, 116, 117, 118, 119, 120, 121, 122]⟩ : ByteArray)[x] = hexD x
  | 0, _, _ => rfl
  | 1, _, _ => rfl
  | 2, _, _ => rfl
  | 3, _, _ => rfl
  | 4, _, _ => rfl
  | 5, _, _ => rfl
  | 6, _, _ => rfl
  | 7, _, _ => rfl
  | 8, _, _ => rfl
  | 9, _, _ => rfl
  | 10, _, _ => rfl
  | 11, _, _ => rfl
  | 12, _, _ => rfl
  | 13, _, _ => rfl
  | 14, _, _ => rfl
  | 15, _, _ => rfl
  | _ + 16, h, _ => absurd h (by omega)

set_option maxHeartbeats 2000000 in
set_option maxRecDepth 100000 in
theorem formatBits16 (n : Nat) (hn : n < 18446744073709551616) (w : World) (h : w.cell? ⟨5, 15, none⟩ = some (.int .u8 4)) :
    Calls Tryd.prog 77 #[.slice none 0 0, .int .u64 n, .int .i64 16, .bool false, .bool false] w fun e w' => e = .returned (.tuple #[.slice none 0 0, .string ⟨(hexL n).toArray⟩]) ∧ Below w.heap.size w w' := by
  have HT := Lib.hid h
  clear h
  go_enter Tryd.func77, Tryd.ntmps77
  go_wp2_with (first | (go_at_call 96; refine (tz16 _ (cell_past _ HT.out)).mono ?_; rintro e w' ⟨rfl, rfl⟩) | (go_at_call 95; refine (pow16 _).mono ?_; rintro e w' ⟨rfl, rfl⟩))
  go_loopg [1, 13] n (fun gg s1 s13 wr => ∃ (u k : Nat) (ds : List UInt8) (cu : Array Value), s1 = .int .u64 u ∧ s13 = .int .i64 k ∧ u ≤ gg ∧ k + ds.length = 65 ∧ ds.length ≤ 15 ∧ u < 18446744073709551616 ∧ Hid (hexL n = hexL u ++ ds) ∧ Hid (u * 16 ^ ds.length ≤ n) ∧ Hid (wr.heap[w.heap.size]? = some (.cells cu 127 (0, 0))) ∧ Hid (EndIs cu ds) ∧ Hid (Below w.heap.size w wr))
  case atStart => exact ⟨n, 65, [], Tryd.zeroCells127, rfl, rfl, Nat.le_refl _, rfl, by simp, hn, by show _ = _; simp, by show _ ≤ _; simp, heap_alloc_new w _, ⟨by kernel_rfl, by simp, fun j hj => by simp at hj⟩, below_alloc (Below.refl _ _) (Nat.le_refl _) _⟩
  case round =>
    obtain ⟨u, k, ds, cu, rfl, rfl, hgg, hk, hd, hu, HX, HM, GH, EI, BW⟩ := hrel
    by_cases hlt : 16 ≤ u
    · have hlt' : (16 : Int) ≤ (u : Int) := by omega
      have ha := and15 u hu
      have hkp : 50 ≤ k := by omega
      have hsz := (EI.out).1
      obtain ⟨old, hold⟩ : ∃ old, cu[k - 1]? = some old := ⟨_, Array.getElem?_eq_getElem (by omega)⟩
      have hc : wr.cell? ⟨w.heap.size, k - 1, none⟩ = some old := (cell_of_heap GH.out).trans hold
      have hf : wr.frozen? ⟨w.heap.size, k - 1, none⟩ = false := free_of_heap GH.out
      have hwr : w.heap.size < wr.heap.size := (Array.getElem?_eq_some_iff.1 GH.out).1
      clear hold hsz
      go_wp2
      go_roundg (u / 16)
      case measure => omega
      case rel =>
        refine ⟨u / 16, k - 1, hexD (u % 16) :: ds, cu.setIfInBounds (k - 1) (.int .u8 ((hexD (u % 16)).toNat : Int)), by go_num, by go_num, Nat.le_refl _, by simp; omega, ?_, by omega, ?_, ?_, ?_, ?_, BW.out.setCell (by simp) _⟩
        · rw [List.length_cons]
          have h1 := HM.out
          rcases Nat.lt_or_ge ds.length 15 with h2 | h2
          · omega
          · have h3 : ds.length = 15 := by omega
            rw [h3] at h1
            omega
        · show _ = _
          rw [HX.out, hexL_big hlt]; simp
        · show _ ≤ _
          have h1 := HM.out
          rw [List.length_cons, Nat.pow_succ]
          have h2 : u / 16 * 16 ≤ u := Nat.div_mul_le_self u 16
          calc u / 16 * (16 ^ ds.length * 16) = (u / 16 * 16) * 16 ^ ds.length := by rw [Nat.mul_comm (16 ^ ds.length) 16, Nat.mul_assoc]
            _ ≤ u * 16 ^ ds.length := Nat.mul_le_mul_right _ h2
            _ ≤ n := h1
        · rw [dig_get _ (by omega)]
          exact Lib.hid (heap_set (x := k - 1) GH.out _)
        · show EndIs _ _
          have := EI.out.push (hexD (u % 16)) (by omega)
          rw [show 64 - ds.length = k - 1 from by omega] at this
          exact this
    · have hlt' : (u : Int) < 16 := by omega
      have hsz := (EI.out).1
      have hkp : 50 ≤ k := by omega
      obtain ⟨old, hold⟩ : ∃ old, cu[k - 1]? = some old := ⟨_, Array.getElem?_eq_getElem (by omega)⟩
      have hc : wr.cell? ⟨w.heap.size, k - 1, none⟩ = some old := (cell_of_heap GH.out).trans hold
      have hf : wr.frozen? ⟨w.heap.size, k - 1, none⟩ = false := free_of_heap GH.out
      have hwr : w.heap.size < wr.heap.size := (Array.getElem?_eq_some_iff.1 GH.out).1
      have HE2 : EndIs (cu.setIfInBounds (k - 1) (.int .u8 ((hexD u).toNat : Int))) (hexD u :: ds) := by
        have := EI.out.push (hexD u) (by omega)
        rw [show 64 - ds.length = k - 1 from by omega] at this
        exact this
      have GH2 := heap_set GH.out (g := w.heap.size) (x := k - 1) (.int .u8 ((hexD u).toNat : Int))
      have hcv := run_convert_bytes_back (P := Tryd.prog) (wr.setCell ⟨w.heap.size, k - 1, none⟩ (.int .u8 ((hexD u).toNat : Int))) 75 9 5 ⟨w.heap.size, k - 1, none⟩ (65 - (k - 1)) (hexD u :: ds) Tryd.underlying75 Tryd.underlying5 Tryd.underlying9 (fun j hj => by
        rw [Addr.add_lit, cell_of_heap GH2]
        have := HE2.2.2 j hj
        rw [show 65 - (hexD u :: ds).length = k - 1 from by simp; omega] at this
        exact this)
      rw [show (hexD u :: ds).length = 65 - (k - 1) from by simp; omega, ← dig_get u (by omega) (by show u < 36; omega)] at hcv
      have HX2 : Hid (hexL n = hexD u :: ds) := by
        show _ = _
        rw [HX.out, hexL_small (by omega)]; rfl
      have hal : Tryd.prog.arrayLen 127 = 65 := by kernel_rfl
      have hsl : ∀ W, (Instr.sliceAt 127 (.pointer (some ⟨w.heap.size, 0, none⟩)) (some (.int .i64 ((k : Int) - 1))) none none).run Tryd.prog W = .ok (.slice (some ⟨w.heap.size, k - 1, none⟩) (65 - (k - 1)) (65 - (k - 1))) W := fun W => by
        rw [run_sliceAt_array_l W 127 ⟨w.heap.size, 0, none⟩ (by simp [Program.arrayLen, Program.elem, Tryd.underlying127]) .i64 ((k : Int) - 1) (by omega) (by rw [hal]; omega)]
        go_simp
        omega
      clear hold hsz HE2 GH2 HX hal
      go_wp2
      go_ret2
      refine ⟨?_, BW.out.setCell (by simp) _⟩
      rw [HX2.out, dig_get u (by omega)]
      rfl

end Go.Proofs.YtgklbmcnpnmkkaaDoor
