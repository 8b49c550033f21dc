/-
  digest.Unbase64: it is dec64.
-/
import Derived.Test.YtgklbmcnpnmkkaaDoorLsUb64P
import Derived.Test.YtgklbmcnpnmkkaaDoorLsB64
import Derived.BigGuard
namespace Go.Proofs.YtgklbmcnpnmkkaaDoor
open Go.RowKit Go.Lib

def Ub64Out (s : List UInt8) (w : World) (e : Ending) (w' : World) : Prop :=
  (match dec64 s with
   | some t => e = .returned (.tuple #[.string ⟨t.toArray⟩, .int .i64 0, .int .i64 0])
   | none => ∃ i : Int, e = .returned (.tuple #[.string ⟨#[]⟩, .int .i64 50, .int .i64 i])) ∧ Below w.heap.size w w'
structure Ub64At (w wr : World) (s out : List UInt8) (j : Nat) (v : Value) : Prop where
  own : wr.ownsRow w.heap.size 5 1 v out.length (byteCells out)
  eq : dec64 s = (dec64 (s.drop j)).map (out ++ ·)
  len : out.length ≤ j
  below : Below w.heap.size w wr
theorem idx_plc (b : UInt8) : Lib.indexByte sixS.data.toList b = match plc b with | some d => (d : Int) | none => -1 := by
  have h : ∀ n : Fin 256, Lib.indexByte sixS.data.toList (UInt8.ofNat n.val) = match plc (UInt8.ofNat n.val) with | some d => (d : Int) | none => -1 := by decide +kernel
  have := h ⟨b.toNat, b.toNat_lt⟩
  rwa [UInt8.ofNat_toNat] at this
theorem plc61 {b : UInt8} (h : (plc b).isSome = true) : b ≠ 61 := by
  rintro rfl
  rw [plc_eq61] at h
  cases h

theorem wrap64_nat (n : Nat) (h : n < 9223372036854775808) : wrap64 (n : Int) = (n : Int) := by unfold wrap64; omega
theorem dor (W d sh bt : Nat) (hs : 64 * sh = 2 ^ bt) (hsp : 0 < sh) (hb : sh ≤ 262144) (hd : d < 64) (hW : W % (64 * sh) = 0) (hWl : W < 16777216) : bits .or .i64 (W : Int) (wrap64 ((d : Int) * (sh : Nat))) = ((W + d * sh : Nat) : Int) := by
  have hds : d * sh < 64 * sh := Nat.mul_lt_mul_of_pos_right hd hsp
  have hdb : d * sh < 16777216 := by omega
  have e1 : wrap64 ((d : Int) * (sh : Nat)) = ((d * sh : Nat) : Int) := by
    rw [← Int.natCast_mul]
    exact wrap64_nat _ (by omega)
  rw [e1, bits_or_nat _ _ (by omega) (by omega)]
  congr 1
  have h1 := or_add (W / (64 * sh)) (d * sh) bt (by omega)
  rw [← hs, Nat.div_mul_cancel (Nat.dvd_of_mod_eq_zero hW)] at h1
  exact h1
theorem dor0 {W d : Nat} (hd : d < 64) (hW : W % 2 ^ (24 - 6 * 0) = 0) (hWl : W < 16777216) : bits .or .i64 (W : Int) (wrap64 ((d : Int) * 262144)) = ((W + d * 262144 : Nat) : Int) := dor W d 262144 24 (by decide) (by decide) (by decide) hd hW hWl
theorem dor1 {W d : Nat} (hd : d < 64) (hW : W % 2 ^ (24 - 6 * 1) = 0) (hWl : W < 16777216) : bits .or .i64 (W : Int) (wrap64 ((d : Int) * 4096)) = ((W + d * 4096 : Nat) : Int) := dor W d 4096 18 (by decide) (by decide) (by decide) hd hW hWl
theorem dor2 {W d : Nat} (hd : d < 64) (hW : W % 2 ^ (24 - 6 * 2) = 0) (hWl : W < 16777216) : bits .or .i64 (W : Int) (wrap64 ((d : Int) * 64)) = ((W + d * 64 : Nat) : Int) := dor W d 64 12 (by decide) (by decide) (by decide) hd hW hWl
theorem dor3 {W d : Nat} (hd : d < 64) (hW : W % 2 ^ (24 - 6 * 3) = 0) (hWl : W < 16777216) : bits .or .i64 (W : Int) (wrap64 (d : Int)) = ((W + d : Nat) : Int) := by
  have := dor W d 1 6 (by decide) (by decide) (by decide) hd hW hWl
  simpa using this

theorem and24 (n : Nat) (hn : n < 281474976710656) : bits .and .i64 (n : Int) 16777215 = ((n % 16777216 : Nat) : Int) := by
  have h := (bits_nat .i64 48 (by decide) (fun n h0 h1 => by rw [IntKind.wrap_i64]; omega) n 16777215 hn (by decide)).1
  rw [show ((16777215 : Nat) : Int) = 16777215 from rfl] at h
  rw [h, show (16777215 : Nat) = 2 ^ 24 - 1 from rfl, Nat.and_two_pow_sub_one_eq_mod]
theorem dand2 {W : Nat} (h : W < 16777216) : bits .and .i64 (wrap64 ((W : Int) * 256)) 16777215 = ((W * 256 % 16777216 : Nat) : Int) := by
  have e : wrap64 ((W : Int) * 256) = ((W * 256 : Nat) : Int) := by rw [← wrap64_nat (W * 256) (by omega)]; rfl
  rw [e, and24 _ (by omega)]
theorem dand3 {W : Nat} (h : W < 16777216) : bits .and .i64 (wrap64 ((W : Int) * 65536)) 16777215 = ((W * 65536 % 16777216 : Nat) : Int) := by
  have e : wrap64 ((W : Int) * 65536) = ((W * 65536 : Nat) : Int) := by rw [← wrap64_nat (W * 65536) (by omega)]; rfl
  rw [e, and24 _ (by omega)]
theorem dand4 {W : Nat} (h : W < 16777216) : bits .and .i64 (wrap64 ((W : Int) * 16777216)) 16777215 = ((W * 16777216 % 16777216 : Nat) : Int) := by
  have e : wrap64 ((W : Int) * 16777216) = ((W * 16777216 : Nat) : Int) := by rw [← wrap64_nat (W * 16777216) (by omega)]; rfl
  rw [e, and24 _ (by omega)]

structure Ub64In (w wo wr : World) (out o : List UInt8) (W i : Nat) (v : Value) : Prop where
  eq : o = out ++ (bytes3 W).take i
  own : wr.ownsRow w.heap.size 5 1 v o.length (byteCells o)
  below : Below w.heap.size wo wr
theorem Ub64In.len {w wo wr : World} {out o : List UInt8} {W i : Nat} {v : Value} (h : Ub64In w wo wr out o W i v) : o.length ≤ out.length + i := by
  rw [h.eq, List.length_append, List.length_take]
  omega
theorem Ub64In.step {w wo wr w7 : World} {out o : List UInt8} {W i : Nat} {v v' : Value} (h : Ub64In w wo wr out o W i v) (b : UInt8) (hb : (bytes3 W)[i]? = some b) (c : Int) (hc : (b.toNat : Int) = c)
    (hown : w7.ownsRow w.heap.size 5 1 v' (o.length + 1) (byteCells o ++ [.int .u8 c])) (hbe : Below w.heap.size wo w7) : Ub64In w wo w7 out (o ++ [b]) W (i + 1) v' := by
  refine ⟨?_, ?_, hbe⟩
  · rw [h.eq, List.append_assoc]
    congr 1
    obtain ⟨hi, rfl⟩ := List.getElem?_eq_some_iff.1 hb
    rw [List.take_add_one, hb]
    rfl
  · have e : byteCells (o ++ [b]) = byteCells o ++ [.int .u8 c] := by rw [← hc]; simp [byteCells]
    rw [e, List.length_append]
    exact hown
theorem Ub64At.next {w wo wr : World} {s out o l : List UInt8} {j m W : Nat} {v v' : Value} (h : Ub64At w wo s out j v) (hde : dec64 (s.drop j) = (dec64 l).map ((bytes3 W).take (m - 1) ++ ·)) (hl : s.drop (j + 4) = l) (hm : m ≤ 4) (hi : Ub64In w wo wr out o W (m - 1) v') : Ub64At w wr s o (j + 4) v' := by
  refine ⟨hi.own, ?_, ?_, h.below.trans hi.below⟩
  · rw [h.eq, hde, hl, hi.eq, Option.map_map]
    congr 1
    funext t
    simp
  · have := h.len
    have := hi.len
    omega
theorem byte30 {W : Nat} : (((UInt8.ofNat (W / 65536)).toNat : Nat) : Int) = (W : Int) / 65536 % 256 := by rw [UInt8.toNat_ofNat']; omega
theorem byte31 {W : Nat} : (((UInt8.ofNat (W / 256 % 256)).toNat : Nat) : Int) = (W : Int) / 256 % 256 := by rw [UInt8.toNat_ofNat']; omega
theorem byte32 {W : Nat} : (((UInt8.ofNat (W % 256)).toNat : Nat) : Int) = (W : Int) % 256 := by rw [UInt8.toNat_ofNat']; omega

set_option maxHeartbeats 16000000 in
set_option maxRecDepth 100000 in
theorem unbase64_any (s : List UInt8) (w : World) (hl : s.length ≤ 200000000000000) : Calls Tryd.prog 33 #[.string ⟨s.toArray⟩] w (Ub64Out s w) := by
  obtain ⟨i0, hi, hz0, hz1, hz2⟩ := info_byte
  go_enter Tryd.func33, Tryd.ntmps33
  go_wp2_with fail
  go_loopg [5, 6] s.length (fun gg s5 s6 wr => ∃ (j : Nat) (out : List UInt8) (v : Value), s.length - j ≤ gg ∧ j ≤ s.length + 3 ∧ s6 = .int .i64 j ∧ s5 = v ∧ Hid (Ub64At w wr s out j v))
  case atStart => exact ⟨0, [], _, by omega, by omega, rfl, rfl, World.ownsRow_nil _ _ _ _, by rw [List.drop_zero]; simp, Nat.le_refl _, Below.refl _ _⟩
  case round =>
    obtain ⟨j, out, v, hg, hj, rfl, hv, HB⟩ := hrel
    obtain ⟨av, cv, hva⟩ := own_form HB.out.own
    rw [hva] at hv
    subst hv hva
    by_cases hlt : j < s.length
    · have hltz : (j : Int) < (s.length : Int) := by omega
      have hw4 : IntKind.i64.wrap ((j : Int) + 4) = (j : Int) + 4 := by rw [IntKind.wrap_i64]; omega
      have hne : Hid (s.drop j ≠ []) := fun h => by have := congrArg List.length h; rw [List.length_drop] at this; simp at this; omega
      have hdl : Hid ((s.drop j).length = s.length - j) := List.length_drop
      obtain ⟨last, hlast⟩ : ∃ last, decide ((s.length : Int) ≤ (j : Int) + 4) = last := ⟨_, rfl⟩
      have HL : Hid (last = decide ((s.drop j).length ≤ 4)) := by
        show _ = _
        rw [← hlast, hdl.out]
        apply Bool.eq_iff_iff.2
        simp only [decide_eq_true_eq]
        omega
      rcases (by cases last <;> simp : last = true ∨ last = false) with rfl | rfl
      · obtain ⟨wo, hwo⟩ : ∃ wo, wo = wr := ⟨wr, rfl⟩
        subst hwo
        go_wp2_with fail
        go_loopg [7, 8, 10] 5 (fun gg2 s7 s8 s10 wr => ∃ (k m W : Nat), k ≤ 4 ∧ 4 - k < gg2 ∧ s7 = .int .i64 W ∧ s8 = .int .i64 m ∧ s10 = .int .i64 ((j + k : Nat) : Int) ∧ wr = wo ∧ Hid (Chunk (s.drop j) true k m W))
        case atStart => exact ⟨0, 0, 0, by omega, by omega, rfl, rfl, by simp, rfl, .z⟩
        case round =>
          obtain ⟨k, m, W, hk, hg2, rfl, rfl, rfl, rfl, HC⟩ := hrel
          obtain ⟨hmk, _, hkl, hWm, hWl⟩ := HC.out.fits
          have HWM := Lib.hid hWm
          by_cases hk4 : k < 4
          · have hkz : ((j + k : Nat) : Int) < (j : Int) + 4 := by omega
            by_cases hin : j + k < s.length
            · have hinz : ¬ (s.length : Int) ≤ ((j + k : Nat) : Int) := by omega
              have hinz2 : ((j + k : Nat) : Int) < (s.length : Int) := by omega
              obtain ⟨b, hb⟩ : ∃ b, s[j + k]? = some b := ⟨_, List.getElem?_eq_getElem hin⟩
              have HBC : Hid ((s.drop j)[k]? = some b) := by show _ = _; rw [List.getElem?_drop]; exact hb
              have hsz : (⟨s.toArray⟩ : ByteArray).size = s.length := by simp [ByteArray.size]
              have hge : (⟨s.toArray⟩ : ByteArray)[j + k]'(by rw [hsz]; exact hin) = b := by
                have := (List.getElem?_eq_some_iff.1 hb).2
                simp [ByteArray.getElem_eq_getElem_data, this]
              have hge2 : (⟨s.toArray⟩ : ByteArray)[j + k]? = some b := by
                rw [getElem?_pos (⟨s.toArray⟩ : ByteArray) (j + k) (by rw [hsz]; exact hin), hge]
              clear hb hWm
              have hsub : IntKind.i64.wrap (((j + k : Nat) : Int) - (j : Int)) = (k : Int) := by rw [IntKind.wrap_i64]; omega
              go_wp2_with fail
              refine (Tryd.strings_IndexByte sixS (b.toNat : Int) _).mono ?_
              rintro e w5 ⟨rfl, rfl⟩
              have hix : Lib.indexByte sixS.data.toList ((b.toNat : Int).toNat.toUInt8) = (match plc b with | some d => (d : Int) | none => -1) := by
                rw [show ((b.toNat : Int)).toNat.toUInt8 = b by simp]
                exact idx_plc b
              simp only []
              rw [hix]
              clear hix
              cases hp : plc b with
              | some d =>
                have hbd : ((s.drop j)[k]?).bind plc = some d := by rw [HBC.out]; exact hp
                have hd64 : Hid (d < 64) := plc_lt hp
                have hd0 : (0 : Int) ≤ (d : Int) := by omega
                have hb61 : ¬ (b.toNat : Int) = 61 := fun h => plc61 (by rw [hp]; rfl) (UInt8.toNat_inj.1 (show b.toNat = (61 : UInt8).toNat by have : (61 : UInt8).toNat = 61 := rfl; omega))
                have hb62 : ¬ b.toNat = 61 := by omega
                by_cases hmk2 : m = k
                · subst hmk2
                  rcases (by omega : m = 0 ∨ m = 1 ∨ m = 2 ∨ m = 3) with rfl | rfl | rfl | rfl
                  · have HN : Hid (Chunk (s.drop j) true (0 + 1) (0 + 1) (W + d * 262144)) := by
                      show Chunk _ _ _ _ _
                      have := Chunk.dig HC.out hk4 hbd
                      simpa using this
                    have hor := dor0 hd64.out HWM.out hWl
                    have hge0 : (⟨s.toArray⟩ : ByteArray)[j]'(by rw [hsz]; exact hin) = b := hge
                    clear hWl hkl hmk
                    go_wp2_with fail
                    go_roundg (gk - 1)
                    case measure => omega
                    case rel => exact ⟨0 + 1, 0 + 1, W + d * 262144, by omega, by omega, rfl, by go_num, by go_num, rfl, HN.out⟩
                  · have HN : Hid (Chunk (s.drop j) true (1 + 1) (1 + 1) (W + d * 4096)) := by
                      show Chunk _ _ _ _ _
                      have := Chunk.dig HC.out hk4 hbd
                      simpa using this
                    have hor := dor1 hd64.out HWM.out hWl
                    clear hWl hkl hmk
                    go_wp2_with fail
                    go_roundg (gk - 1)
                    case measure => omega
                    case rel => exact ⟨1 + 1, 1 + 1, W + d * 4096, by omega, by omega, rfl, by go_num, by go_num, rfl, HN.out⟩
                  · have HN : Hid (Chunk (s.drop j) true (2 + 1) (2 + 1) (W + d * 64)) := by
                      show Chunk _ _ _ _ _
                      have := Chunk.dig HC.out hk4 hbd
                      simpa using this
                    have hor := dor2 hd64.out HWM.out hWl
                    clear hWl hkl hmk
                    go_wp2_with fail
                    go_roundg (gk - 1)
                    case measure => omega
                    case rel => exact ⟨2 + 1, 2 + 1, W + d * 64, by omega, by omega, rfl, by go_num, by go_num, rfl, HN.out⟩
                  · have HN : Hid (Chunk (s.drop j) true (3 + 1) (3 + 1) (W + d)) := by
                      show Chunk _ _ _ _ _
                      have := Chunk.dig HC.out hk4 hbd
                      simpa using this
                    have hor := dor3 hd64.out HWM.out hWl
                    clear hWl hkl hmk
                    go_wp2_with fail
                    go_roundg (gk - 1)
                    case measure => omega
                    case rel => exact ⟨3 + 1, 3 + 1, W + d, by omega, by omega, rfl, by go_num, by go_num, rfl, HN.out⟩
                · have HDE := Lib.hid (chunk_err HC.out hk4 hne.out HL.out (.inr ⟨b, HBC.out, .inl ⟨by rw [hp]; rfl, hmk2⟩⟩))
                  have hmkz : ¬ (m : Int) = (k : Int) := by omega
                  clear hWl hkl
                  go_wp2_with fail
                  refine bodyPost_ret (results_tmp3 rfl _ _ _) rfl ?_
                  refine ⟨?_, HB.out.below⟩
                  rw [HB.out.eq, HDE.out]
                  exact ⟨_, rfl⟩
              | none =>
                by_cases hb61 : b = 61
                · have hbz : (b.toNat : Int) = 61 := by rw [hb61]; rfl
                  have hbz2 : b.toNat = 61 := by rw [hb61]; rfl
                  by_cases hk2 : 2 ≤ k
                  · have hk2z : (2 : Int) ≤ (j : Int) + (k : Int) - (j : Int) := by omega
                    have HN : Hid (Chunk (s.drop j) true (k + 1) m W) := .pad HC.out hk4 (by rw [HBC.out, hb61]) rfl hk2
                    clear hWl hkl hb61
                    go_wp2_with fail
                    go_roundg (gk - 1)
                    case measure => omega
                    case rel => exact ⟨k + 1, m, W, by omega, by omega, rfl, rfl, by go_num, rfl, HN.out⟩
                  · have hk2z : ¬ (2 : Int) ≤ (j : Int) + (k : Int) - (j : Int) := by omega
                    have HDE := Lib.hid (chunk_err HC.out hk4 hne.out HL.out (.inr ⟨b, HBC.out, .inr ⟨hp, fun h => hk2 h.2.2⟩⟩))
                    clear hWl hkl hb61
                    go_wp2_with fail
                    refine bodyPost_ret (results_tmp3 rfl _ _ _) rfl ?_
                    refine ⟨?_, HB.out.below⟩
                    rw [HB.out.eq, HDE.out]
                    exact ⟨_, rfl⟩
                · have hbz : ¬ (b.toNat : Int) = 61 := fun h => hb61 (UInt8.toNat_inj.1 (show b.toNat = (61 : UInt8).toNat by have : (61 : UInt8).toNat = 61 := rfl; omega))
                  have hbz2 : ¬ b.toNat = 61 := by omega
                  have HDE := Lib.hid (chunk_err HC.out hk4 hne.out HL.out (.inr ⟨b, HBC.out, .inr ⟨hp, fun h => hb61 h.1⟩⟩))
                  clear hWl hkl hb61
                  go_wp2_with fail
                  refine bodyPost_ret (results_tmp3 rfl _ _ _) rfl ?_
                  refine ⟨?_, HB.out.below⟩
                  rw [HB.out.eq, HDE.out]
                  exact ⟨_, rfl⟩
            · have hinz : (s.length : Int) ≤ ((j + k : Nat) : Int) := by omega
              clear hWm
              go_wp2_with fail
              refine bodyPost_ret (results_tmp3 rfl _ _ _) rfl ?_
              have hd := chunk_err HC.out hk4 hne.out HL.out (.inl (by rw [hdl.out]; rw [hdl.out] at hkl; omega))
              refine ⟨?_, HB.out.below⟩
              rw [HB.out.eq, hd]
              exact ⟨_, rfl⟩
          · obtain rfl : k = 4 := by omega
            have hkz : ¬ ((j + 4 : Nat) : Int) < (j : Int) + 4 := by omega
            clear hWm
            obtain ⟨x, y, z, t, l, hd4⟩ : ∃ x y z t l, s.drop j = x :: y :: z :: t :: l := by
              match hs : s.drop j, hkl with
              | x :: y :: z :: t :: l, _ => exact ⟨x, y, z, t, l, rfl⟩
            have hl4 : Hid (s.drop (j + 4) = l) := by
              show _ = _
              have := congrArg (List.drop 4) hd4
              rw [List.drop_drop] at this
              simpa [Nat.add_comm] using this
            have HC4 := HC.out
            rw [hd4] at HC4
            obtain ⟨⟨hm2, hm4⟩, hdec⟩ := chunk_ok HC4
            have hlle : l.isEmpty = true := by
              rw [HL.out, hd4]
              cases l with
              | nil => rfl
              | cons a l => simp
            have HD4 : Hid (dec64 (s.drop j) = match (if W * 2 ^ (8 * (m - 1)) % 16777216 = 0 then some ((bytes3 W).take (m - 1)) else none), dec64 l with
                | some a, some b => some (a ++ b)
                | _, _ => none) := by
              show _ = _
              rw [hd4, ← hdec, ← hlle]
              rfl
            have hkl4 : j + 4 ≤ s.length := by rw [hdl.out] at hkl; omega
            clear HC4 hdec hlle hd4 hmk hkl
            rcases (by omega : m = 2 ∨ m = 3 ∨ m = 4) with rfl | rfl | rfl
            · have hand := dand2 hWl
              by_cases hV : W * 256 % 16777216 = 0
              · rw [hV] at hand
                have HDE : Hid (dec64 (s.drop j) = (dec64 l).map ((bytes3 W).take (2 - 1) ++ ·)) := by
                  show _ = _
                  rw [HD4.out, if_pos (show W * 2 ^ (8 * (2 - 1)) % 16777216 = 0 from hV)]
                  cases dec64 l <;> rfl
                clear HD4 hV
                have HWL := Lib.hid hWl
                clear hWl
                go_wp2_with fail
                obtain ⟨wo, hwo⟩ : ∃ wo, wo = wr := ⟨wr, rfl⟩
                subst hwo
                go_loopg [5, 91] 5 (fun gg3 s5 s91 wr => ∃ (i : Nat) (o : List UInt8) (v : Value), i ≤ 1 ∧ 4 - i < gg3 ∧ s91 = .int .i64 (i : Int) ∧ s5 = v ∧ Hid (Ub64In w wo wr out o W i v))
                case atStart => exact ⟨0, out, _, by omega, by omega, rfl, rfl, by simp, HB.out.own, Below.refl _ _⟩
                case round =>
                  obtain ⟨i, o, v, hi4, hg3, rfl, hv, HO⟩ := hrel
                  obtain ⟨av2, cv2, hva⟩ := own_form HO.out.own
                  rw [hva] at hv
                  subst hv hva
                  by_cases hiM : i < 1
                  · have hiz : (i : Int) < 1 := by omega
                    have hol := HO.out.len
                    have hol2 := HB.out.len
                    have hz5 : w.heap.size ≤ wr.heap.size := Nat.le_trans HB.out.below.size HO.out.below.size
                    rcases (by omega : i = 0) with rfl
                    · have B5 : Hid (Below wr.heap.size wr (wr.alloc (.cells #[.int .u8 ((W : Int) / 65536 % 256)] 5))) := below_alloc (Below.refl _ _) (Nat.le_refl _) _
                      have O5 : Hid ((wr.alloc (.cells #[.int .u8 ((W : Int) / 65536 % 256)] 5)).ownsRow w.heap.size 5 1 (.slice av2 o.length cv2) o.length (byteCells o)) := own_later HO.out.own B5.out
                      have H5 : Hid ((wr.alloc (.cells #[.int .u8 ((W : Int) / 65536 % 256)] 5)).heap[wr.heap.size]? = some (.cells #[.int .u8 ((W : Int) / 65536 % 256)] 5 (0, 0))) := heap_alloc_new _ _
                      have hz6 := B5.out.size
                      go_wp2_with (at_builtin; refine wpList_append_own_wide _ rfl _ _ 75 rfl w.heap.size 5 i0 (.int .u8 0) 1 1 Tryd.underlying75 hi hz0 hz1 hz2 rfl (by decide) _ _ _ rfl O5.out ⟨wr.heap.size, 0, none⟩ 1 1 [.int .u8 ((W : Int) / 65536 % 256)] rfl rfl ?c1 ?c2 ?c3 ?c4 ?c5 ?_)
                      case c1 =>
                        intro j u hj
                        rw [show ((⟨wr.heap.size, 0, none⟩ : Addr).add j) = ⟨wr.heap.size, j, none⟩ by rw [Addr.add_lit, Nat.zero_add]]
                        exact (cell_of_heap H5.out).trans (by simpa using hj)
                      case c2 => simp [Value.oneCell']
                      case c3 => simp only [maxLen]; omega
                      case c4 => omega
                      case c5 => omega
                      intro v' w7 hown' hgrow _
                      have B7 := Lib.hid ((HO.out.below.trans (B5.out.mono hz5)).grown hgrow (Nat.le_trans hz5 B5.out.size) (fun k hk => (HO.out.own.lt k hk).1))
                      have HN := Lib.hid (HO.out.step _ rfl _ byte30 hown' B7.out)
                      go_wp2_with fail
                      go_roundg (gk - 1)
                      case measure => omega
                      case rel => exact ⟨0 + 1, _, v', by omega, by omega, by go_num, rfl, HN.out⟩
                  · obtain rfl : i = 1 := by omega
                    have HN := Lib.hid (HB.out.next (m := 2) HDE.out hl4.out (by decide) HO.out)
                    go_wp2_with fail
                    go_roundg (s.length - (j + 4))
                    case measure => omega
                    case rel => exact ⟨j + 4, o, .slice av2 o.length cv2, by omega, by omega, by go_num, rfl, HN.out⟩
              · have HDE : Hid (dec64 (s.drop j) = none) := by
                  show _ = _
                  rw [HD4.out, if_neg (show ¬ W * 2 ^ (8 * (2 - 1)) % 16777216 = 0 from hV)]
                obtain ⟨V, hVe⟩ : ∃ V, W * 256 % 16777216 = V := ⟨_, rfl⟩
                rw [hVe] at hand hV
                have hVz : ¬ (V : Int) = 0 := by omega
                clear HD4 hVe hWl
                go_wp2_with fail
                refine bodyPost_ret (results_tmp3 rfl _ _ _) rfl ?_
                refine ⟨?_, HB.out.below⟩
                rw [HB.out.eq, HDE.out]
                exact ⟨_, rfl⟩
            · have hand := dand3 hWl
              by_cases hV : W * 65536 % 16777216 = 0
              · rw [hV] at hand
                have HDE : Hid (dec64 (s.drop j) = (dec64 l).map ((bytes3 W).take (3 - 1) ++ ·)) := by
                  show _ = _
                  rw [HD4.out, if_pos (show W * 2 ^ (8 * (3 - 1)) % 16777216 = 0 from hV)]
                  cases dec64 l <;> rfl
                clear HD4 hV
                have HWL := Lib.hid hWl
                clear hWl
                go_wp2_with fail
                obtain ⟨wo, hwo⟩ : ∃ wo, wo = wr := ⟨wr, rfl⟩
                subst hwo
                go_loopg [5, 91] 5 (fun gg3 s5 s91 wr => ∃ (i : Nat) (o : List UInt8) (v : Value), i ≤ 2 ∧ 4 - i < gg3 ∧ s91 = .int .i64 (i : Int) ∧ s5 = v ∧ Hid (Ub64In w wo wr out o W i v))
                case atStart => exact ⟨0, out, _, by omega, by omega, rfl, rfl, by simp, HB.out.own, Below.refl _ _⟩
                case round =>
                  obtain ⟨i, o, v, hi4, hg3, rfl, hv, HO⟩ := hrel
                  obtain ⟨av2, cv2, hva⟩ := own_form HO.out.own
                  rw [hva] at hv
                  subst hv hva
                  by_cases hiM : i < 2
                  · have hiz : (i : Int) < 2 := by omega
                    have hol := HO.out.len
                    have hol2 := HB.out.len
                    have hz5 : w.heap.size ≤ wr.heap.size := Nat.le_trans HB.out.below.size HO.out.below.size
                    rcases (by omega : i = 0 ∨ i = 1) with rfl | rfl
                    · have B5 : Hid (Below wr.heap.size wr (wr.alloc (.cells #[.int .u8 ((W : Int) / 65536 % 256)] 5))) := below_alloc (Below.refl _ _) (Nat.le_refl _) _
                      have O5 : Hid ((wr.alloc (.cells #[.int .u8 ((W : Int) / 65536 % 256)] 5)).ownsRow w.heap.size 5 1 (.slice av2 o.length cv2) o.length (byteCells o)) := own_later HO.out.own B5.out
                      have H5 : Hid ((wr.alloc (.cells #[.int .u8 ((W : Int) / 65536 % 256)] 5)).heap[wr.heap.size]? = some (.cells #[.int .u8 ((W : Int) / 65536 % 256)] 5 (0, 0))) := heap_alloc_new _ _
                      have hz6 := B5.out.size
                      go_wp2_with (at_builtin; refine wpList_append_own_wide _ rfl _ _ 75 rfl w.heap.size 5 i0 (.int .u8 0) 1 1 Tryd.underlying75 hi hz0 hz1 hz2 rfl (by decide) _ _ _ rfl O5.out ⟨wr.heap.size, 0, none⟩ 1 1 [.int .u8 ((W : Int) / 65536 % 256)] rfl rfl ?c1 ?c2 ?c3 ?c4 ?c5 ?_)
                      case c1 =>
                        intro j u hj
                        rw [show ((⟨wr.heap.size, 0, none⟩ : Addr).add j) = ⟨wr.heap.size, j, none⟩ by rw [Addr.add_lit, Nat.zero_add]]
                        exact (cell_of_heap H5.out).trans (by simpa using hj)
                      case c2 => simp [Value.oneCell']
                      case c3 => simp only [maxLen]; omega
                      case c4 => omega
                      case c5 => omega
                      intro v' w7 hown' hgrow _
                      have B7 := Lib.hid ((HO.out.below.trans (B5.out.mono hz5)).grown hgrow (Nat.le_trans hz5 B5.out.size) (fun k hk => (HO.out.own.lt k hk).1))
                      have HN := Lib.hid (HO.out.step _ rfl _ byte30 hown' B7.out)
                      go_wp2_with fail
                      go_roundg (gk - 1)
                      case measure => omega
                      case rel => exact ⟨0 + 1, _, v', by omega, by omega, by go_num, rfl, HN.out⟩
                    · have B5 : Hid (Below wr.heap.size wr (wr.alloc (.cells #[.int .u8 ((W : Int) / 256 % 256)] 5))) := below_alloc (Below.refl _ _) (Nat.le_refl _) _
                      have O5 : Hid ((wr.alloc (.cells #[.int .u8 ((W : Int) / 256 % 256)] 5)).ownsRow w.heap.size 5 1 (.slice av2 o.length cv2) o.length (byteCells o)) := own_later HO.out.own B5.out
                      have H5 : Hid ((wr.alloc (.cells #[.int .u8 ((W : Int) / 256 % 256)] 5)).heap[wr.heap.size]? = some (.cells #[.int .u8 ((W : Int) / 256 % 256)] 5 (0, 0))) := heap_alloc_new _ _
                      have hz6 := B5.out.size
                      go_wp2_with (at_builtin; refine wpList_append_own_wide _ rfl _ _ 75 rfl w.heap.size 5 i0 (.int .u8 0) 1 1 Tryd.underlying75 hi hz0 hz1 hz2 rfl (by decide) _ _ _ rfl O5.out ⟨wr.heap.size, 0, none⟩ 1 1 [.int .u8 ((W : Int) / 256 % 256)] rfl rfl ?c1 ?c2 ?c3 ?c4 ?c5 ?_)
                      case c1 =>
                        intro j u hj
                        rw [show ((⟨wr.heap.size, 0, none⟩ : Addr).add j) = ⟨wr.heap.size, j, none⟩ by rw [Addr.add_lit, Nat.zero_add]]
                        exact (cell_of_heap H5.out).trans (by simpa using hj)
                      case c2 => simp [Value.oneCell']
                      case c3 => simp only [maxLen]; omega
                      case c4 => omega
                      case c5 => omega
                      intro v' w7 hown' hgrow _
                      have B7 := Lib.hid ((HO.out.below.trans (B5.out.mono hz5)).grown hgrow (Nat.le_trans hz5 B5.out.size) (fun k hk => (HO.out.own.lt k hk).1))
                      have HN := Lib.hid (HO.out.step _ rfl _ byte31 hown' B7.out)
                      go_wp2_with fail
                      go_roundg (gk - 1)
                      case measure => omega
                      case rel => exact ⟨1 + 1, _, v', by omega, by omega, by go_num, rfl, HN.out⟩
                  · obtain rfl : i = 2 := by omega
                    have HN := Lib.hid (HB.out.next (m := 3) HDE.out hl4.out (by decide) HO.out)
                    go_wp2_with fail
                    go_roundg (s.length - (j + 4))
                    case measure => omega
                    case rel => exact ⟨j + 4, o, .slice av2 o.length cv2, by omega, by omega, by go_num, rfl, HN.out⟩
              · have HDE : Hid (dec64 (s.drop j) = none) := by
                  show _ = _
                  rw [HD4.out, if_neg (show ¬ W * 2 ^ (8 * (3 - 1)) % 16777216 = 0 from hV)]
                obtain ⟨V, hVe⟩ : ∃ V, W * 65536 % 16777216 = V := ⟨_, rfl⟩
                rw [hVe] at hand hV
                have hVz : ¬ (V : Int) = 0 := by omega
                clear HD4 hVe hWl
                go_wp2_with fail
                refine bodyPost_ret (results_tmp3 rfl _ _ _) rfl ?_
                refine ⟨?_, HB.out.below⟩
                rw [HB.out.eq, HDE.out]
                exact ⟨_, rfl⟩
            · have hand := dand4 hWl
              by_cases hV : W * 16777216 % 16777216 = 0
              · rw [hV] at hand
                have HDE : Hid (dec64 (s.drop j) = (dec64 l).map ((bytes3 W).take (4 - 1) ++ ·)) := by
                  show _ = _
                  rw [HD4.out, if_pos (show W * 2 ^ (8 * (4 - 1)) % 16777216 = 0 from hV)]
                  cases dec64 l <;> rfl
                clear HD4 hV
                have HWL := Lib.hid hWl
                clear hWl
                go_wp2_with fail
                obtain ⟨wo, hwo⟩ : ∃ wo, wo = wr := ⟨wr, rfl⟩
                subst hwo
                go_loopg [5, 91] 5 (fun gg3 s5 s91 wr => ∃ (i : Nat) (o : List UInt8) (v : Value), i ≤ 3 ∧ 4 - i < gg3 ∧ s91 = .int .i64 (i : Int) ∧ s5 = v ∧ Hid (Ub64In w wo wr out o W i v))
                case atStart => exact ⟨0, out, _, by omega, by omega, rfl, rfl, by simp, HB.out.own, Below.refl _ _⟩
                case round =>
                  obtain ⟨i, o, v, hi4, hg3, rfl, hv, HO⟩ := hrel
                  obtain ⟨av2, cv2, hva⟩ := own_form HO.out.own
                  rw [hva] at hv
                  subst hv hva
                  by_cases hiM : i < 3
                  · have hiz : (i : Int) < 3 := by omega
                    have hol := HO.out.len
                    have hol2 := HB.out.len
                    have hz5 : w.heap.size ≤ wr.heap.size := Nat.le_trans HB.out.below.size HO.out.below.size
                    rcases (by omega : i = 0 ∨ i = 1 ∨ i = 2) with rfl | rfl | rfl
                    · have B5 : Hid (Below wr.heap.size wr (wr.alloc (.cells #[.int .u8 ((W : Int) / 65536 % 256)] 5))) := below_alloc (Below.refl _ _) (Nat.le_refl _) _
                      have O5 : Hid ((wr.alloc (.cells #[.int .u8 ((W : Int) / 65536 % 256)] 5)).ownsRow w.heap.size 5 1 (.slice av2 o.length cv2) o.length (byteCells o)) := own_later HO.out.own B5.out
                      have H5 : Hid ((wr.alloc (.cells #[.int .u8 ((W : Int) / 65536 % 256)] 5)).heap[wr.heap.size]? = some (.cells #[.int .u8 ((W : Int) / 65536 % 256)] 5 (0, 0))) := heap_alloc_new _ _
                      have hz6 := B5.out.size
                      go_wp2_with (at_builtin; refine wpList_append_own_wide _ rfl _ _ 75 rfl w.heap.size 5 i0 (.int .u8 0) 1 1 Tryd.underlying75 hi hz0 hz1 hz2 rfl (by decide) _ _ _ rfl O5.out ⟨wr.heap.size, 0, none⟩ 1 1 [.int .u8 ((W : Int) / 65536 % 256)] rfl rfl ?c1 ?c2 ?c3 ?c4 ?c5 ?_)
                      case c1 =>
                        intro j u hj
                        rw [show ((⟨wr.heap.size, 0, none⟩ : Addr).add j) = ⟨wr.heap.size, j, none⟩ by rw [Addr.add_lit, Nat.zero_add]]
                        exact (cell_of_heap H5.out).trans (by simpa using hj)
                      case c2 => simp [Value.oneCell']
                      case c3 => simp only [maxLen]; omega
                      case c4 => omega
                      case c5 => omega
                      intro v' w7 hown' hgrow _
                      have B7 := Lib.hid ((HO.out.below.trans (B5.out.mono hz5)).grown hgrow (Nat.le_trans hz5 B5.out.size) (fun k hk => (HO.out.own.lt k hk).1))
                      have HN := Lib.hid (HO.out.step _ rfl _ byte30 hown' B7.out)
                      go_wp2_with fail
                      go_roundg (gk - 1)
                      case measure => omega
                      case rel => exact ⟨0 + 1, _, v', by omega, by omega, by go_num, rfl, HN.out⟩
                    · have B5 : Hid (Below wr.heap.size wr (wr.alloc (.cells #[.int .u8 ((W : Int) / 256 % 256)] 5))) := below_alloc (Below.refl _ _) (Nat.le_refl _) _
                      have O5 : Hid ((wr.alloc (.cells #[.int .u8 ((W : Int) / 256 % 256)] 5)).ownsRow w.heap.size 5 1 (.slice av2 o.length cv2) o.length (byteCells o)) := own_later HO.out.own B5.out
                      have H5 : Hid ((wr.alloc (.cells #[.int .u8 ((W : Int) / 256 % 256)] 5)).heap[wr.heap.size]? = some (.cells #[.int .u8 ((W : Int) / 256 % 256)] 5 (0, 0))) := heap_alloc_new _ _
                      have hz6 := B5.out.size
                      go_wp2_with (at_builtin; refine wpList_append_own_wide _ rfl _ _ 75 rfl w.heap.size 5 i0 (.int .u8 0) 1 1 Tryd.underlying75 hi hz0 hz1 hz2 rfl (by decide) _ _ _ rfl O5.out ⟨wr.heap.size, 0, none⟩ 1 1 [.int .u8 ((W : Int) / 256 % 256)] rfl rfl ?c1 ?c2 ?c3 ?c4 ?c5 ?_)
                      case c1 =>
                        intro j u hj
                        rw [show ((⟨wr.heap.size, 0, none⟩ : Addr).add j) = ⟨wr.heap.size, j, none⟩ by rw [Addr.add_lit, Nat.zero_add]]
                        exact (cell_of_heap H5.out).trans (by simpa using hj)
                      case c2 => simp [Value.oneCell']
                      case c3 => simp only [maxLen]; omega
                      case c4 => omega
                      case c5 => omega
                      intro v' w7 hown' hgrow _
                      have B7 := Lib.hid ((HO.out.below.trans (B5.out.mono hz5)).grown hgrow (Nat.le_trans hz5 B5.out.size) (fun k hk => (HO.out.own.lt k hk).1))
                      have HN := Lib.hid (HO.out.step _ rfl _ byte31 hown' B7.out)
                      go_wp2_with fail
                      go_roundg (gk - 1)
                      case measure => omega
                      case rel => exact ⟨1 + 1, _, v', by omega, by omega, by go_num, rfl, HN.out⟩
                    · have B5 : Hid (Below wr.heap.size wr (wr.alloc (.cells #[.int .u8 ((W : Int) % 256)] 5))) := below_alloc (Below.refl _ _) (Nat.le_refl _) _
                      have O5 : Hid ((wr.alloc (.cells #[.int .u8 ((W : Int) % 256)] 5)).ownsRow w.heap.size 5 1 (.slice av2 o.length cv2) o.length (byteCells o)) := own_later HO.out.own B5.out
                      have H5 : Hid ((wr.alloc (.cells #[.int .u8 ((W : Int) % 256)] 5)).heap[wr.heap.size]? = some (.cells #[.int .u8 ((W : Int) % 256)] 5 (0, 0))) := heap_alloc_new _ _
                      have hz6 := B5.out.size
                      go_wp2_with (at_builtin; refine wpList_append_own_wide _ rfl _ _ 75 rfl w.heap.size 5 i0 (.int .u8 0) 1 1 Tryd.underlying75 hi hz0 hz1 hz2 rfl (by decide) _ _ _ rfl O5.out ⟨wr.heap.size, 0, none⟩ 1 1 [.int .u8 ((W : Int) % 256)] rfl rfl ?c1 ?c2 ?c3 ?c4 ?c5 ?_)
                      case c1 =>
                        intro j u hj
                        rw [show ((⟨wr.heap.size, 0, none⟩ : Addr).add j) = ⟨wr.heap.size, j, none⟩ by rw [Addr.add_lit, Nat.zero_add]]
                        exact (cell_of_heap H5.out).trans (by simpa using hj)
                      case c2 => simp [Value.oneCell']
                      case c3 => simp only [maxLen]; omega
                      case c4 => omega
                      case c5 => omega
                      intro v' w7 hown' hgrow _
                      have B7 := Lib.hid ((HO.out.below.trans (B5.out.mono hz5)).grown hgrow (Nat.le_trans hz5 B5.out.size) (fun k hk => (HO.out.own.lt k hk).1))
                      have HN := Lib.hid (HO.out.step _ rfl _ byte32 hown' B7.out)
                      go_wp2_with fail
                      go_roundg (gk - 1)
                      case measure => omega
                      case rel => exact ⟨2 + 1, _, v', by omega, by omega, by go_num, rfl, HN.out⟩
                  · obtain rfl : i = 3 := by omega
                    have HN := Lib.hid (HB.out.next (m := 4) HDE.out hl4.out (by decide) HO.out)
                    go_wp2_with fail
                    go_roundg (s.length - (j + 4))
                    case measure => omega
                    case rel => exact ⟨j + 4, o, .slice av2 o.length cv2, by omega, by omega, by go_num, rfl, HN.out⟩
              · have HDE : Hid (dec64 (s.drop j) = none) := by
                  show _ = _
                  rw [HD4.out, if_neg (show ¬ W * 2 ^ (8 * (4 - 1)) % 16777216 = 0 from hV)]
                obtain ⟨V, hVe⟩ : ∃ V, W * 16777216 % 16777216 = V := ⟨_, rfl⟩
                rw [hVe] at hand hV
                have hVz : ¬ (V : Int) = 0 := by omega
                clear HD4 hVe hWl
                go_wp2_with fail
                refine bodyPost_ret (results_tmp3 rfl _ _ _) rfl ?_
                refine ⟨?_, HB.out.below⟩
                rw [HB.out.eq, HDE.out]
                exact ⟨_, rfl⟩
      · obtain ⟨wo, hwo⟩ : ∃ wo, wo = wr := ⟨wr, rfl⟩
        subst hwo
        go_wp2_with fail
        go_loopg [7, 8, 10] 5 (fun gg2 s7 s8 s10 wr => ∃ (k m W : Nat), k ≤ 4 ∧ 4 - k < gg2 ∧ s7 = .int .i64 W ∧ s8 = .int .i64 m ∧ s10 = .int .i64 ((j + k : Nat) : Int) ∧ wr = wo ∧ Hid (Chunk (s.drop j) false k m W))
        case atStart => exact ⟨0, 0, 0, by omega, by omega, rfl, rfl, by simp, rfl, .z⟩
        case round =>
          obtain ⟨k, m, W, hk, hg2, rfl, rfl, rfl, rfl, HC⟩ := hrel
          obtain ⟨hmk, _, hkl, hWm, hWl⟩ := HC.out.fits
          have HWM := Lib.hid hWm
          by_cases hk4 : k < 4
          · have hkz : ((j + k : Nat) : Int) < (j : Int) + 4 := by omega
            by_cases hin : j + k < s.length
            · have hinz : ¬ (s.length : Int) ≤ ((j + k : Nat) : Int) := by omega
              have hinz2 : ((j + k : Nat) : Int) < (s.length : Int) := by omega
              obtain ⟨b, hb⟩ : ∃ b, s[j + k]? = some b := ⟨_, List.getElem?_eq_getElem hin⟩
              have HBC : Hid ((s.drop j)[k]? = some b) := by show _ = _; rw [List.getElem?_drop]; exact hb
              have hsz : (⟨s.toArray⟩ : ByteArray).size = s.length := by simp [ByteArray.size]
              have hge : (⟨s.toArray⟩ : ByteArray)[j + k]'(by rw [hsz]; exact hin) = b := by
                have := (List.getElem?_eq_some_iff.1 hb).2
                simp [ByteArray.getElem_eq_getElem_data, this]
              have hge2 : (⟨s.toArray⟩ : ByteArray)[j + k]? = some b := by
                rw [getElem?_pos (⟨s.toArray⟩ : ByteArray) (j + k) (by rw [hsz]; exact hin), hge]
              clear hb hWm
              have hsub : IntKind.i64.wrap (((j + k : Nat) : Int) - (j : Int)) = (k : Int) := by rw [IntKind.wrap_i64]; omega
              go_wp2_with fail
              refine (Tryd.strings_IndexByte sixS (b.toNat : Int) _).mono ?_
              rintro e w5 ⟨rfl, rfl⟩
              have hix : Lib.indexByte sixS.data.toList ((b.toNat : Int).toNat.toUInt8) = (match plc b with | some d => (d : Int) | none => -1) := by
                rw [show ((b.toNat : Int)).toNat.toUInt8 = b by simp]
                exact idx_plc b
              simp only []
              rw [hix]
              clear hix
              cases hp : plc b with
              | some d =>
                have hbd : ((s.drop j)[k]?).bind plc = some d := by rw [HBC.out]; exact hp
                have hd64 : Hid (d < 64) := plc_lt hp
                have hd0 : (0 : Int) ≤ (d : Int) := by omega
                have hb61 : ¬ (b.toNat : Int) = 61 := fun h => plc61 (by rw [hp]; rfl) (UInt8.toNat_inj.1 (show b.toNat = (61 : UInt8).toNat by have : (61 : UInt8).toNat = 61 := rfl; omega))
                have hb62 : ¬ b.toNat = 61 := by omega
                by_cases hmk2 : m = k
                · subst hmk2
                  rcases (by omega : m = 0 ∨ m = 1 ∨ m = 2 ∨ m = 3) with rfl | rfl | rfl | rfl
                  · have HN : Hid (Chunk (s.drop j) false (0 + 1) (0 + 1) (W + d * 262144)) := by
                      show Chunk _ _ _ _ _
                      have := Chunk.dig HC.out hk4 hbd
                      simpa using this
                    have hor := dor0 hd64.out HWM.out hWl
                    have hge0 : (⟨s.toArray⟩ : ByteArray)[j]'(by rw [hsz]; exact hin) = b := hge
                    clear hWl hkl hmk
                    go_wp2_with fail
                    go_roundg (gk - 1)
                    case measure => omega
                    case rel => exact ⟨0 + 1, 0 + 1, W + d * 262144, by omega, by omega, rfl, by go_num, by go_num, rfl, HN.out⟩
                  · have HN : Hid (Chunk (s.drop j) false (1 + 1) (1 + 1) (W + d * 4096)) := by
                      show Chunk _ _ _ _ _
                      have := Chunk.dig HC.out hk4 hbd
                      simpa using this
                    have hor := dor1 hd64.out HWM.out hWl
                    clear hWl hkl hmk
                    go_wp2_with fail
                    go_roundg (gk - 1)
                    case measure => omega
                    case rel => exact ⟨1 + 1, 1 + 1, W + d * 4096, by omega, by omega, rfl, by go_num, by go_num, rfl, HN.out⟩
                  · have HN : Hid (Chunk (s.drop j) false (2 + 1) (2 + 1) (W + d * 64)) := by
                      show Chunk _ _ _ _ _
                      have := Chunk.dig HC.out hk4 hbd
                      simpa using this
                    have hor := dor2 hd64.out HWM.out hWl
                    clear hWl hkl hmk
                    go_wp2_with fail
                    go_roundg (gk - 1)
                    case measure => omega
                    case rel => exact ⟨2 + 1, 2 + 1, W + d * 64, by omega, by omega, rfl, by go_num, by go_num, rfl, HN.out⟩
                  · have HN : Hid (Chunk (s.drop j) false (3 + 1) (3 + 1) (W + d)) := by
                      show Chunk _ _ _ _ _
                      have := Chunk.dig HC.out hk4 hbd
                      simpa using this
                    have hor := dor3 hd64.out HWM.out hWl
                    clear hWl hkl hmk
                    go_wp2_with fail
                    go_roundg (gk - 1)
                    case measure => omega
                    case rel => exact ⟨3 + 1, 3 + 1, W + d, by omega, by omega, rfl, by go_num, by go_num, rfl, HN.out⟩
                · have HDE := Lib.hid (chunk_err HC.out hk4 hne.out HL.out (.inr ⟨b, HBC.out, .inl ⟨by rw [hp]; rfl, hmk2⟩⟩))
                  have hmkz : ¬ (m : Int) = (k : Int) := by omega
                  clear hWl hkl
                  go_wp2_with fail
                  refine bodyPost_ret (results_tmp3 rfl _ _ _) rfl ?_
                  refine ⟨?_, HB.out.below⟩
                  rw [HB.out.eq, HDE.out]
                  exact ⟨_, rfl⟩
              | none =>
                by_cases hb61 : b = 61
                · have hbz : (b.toNat : Int) = 61 := by rw [hb61]; rfl
                  have hbz2 : b.toNat = 61 := by rw [hb61]; rfl
                  have HDE := Lib.hid (chunk_err HC.out hk4 hne.out HL.out (.inr ⟨b, HBC.out, .inr ⟨hp, fun h => by cases h.2.1⟩⟩))
                  clear hWl hkl hb61
                  go_wp2_with fail
                  refine bodyPost_ret (results_tmp3 rfl _ _ _) rfl ?_
                  refine ⟨?_, HB.out.below⟩
                  rw [HB.out.eq, HDE.out]
                  exact ⟨_, rfl⟩
                · have hbz : ¬ (b.toNat : Int) = 61 := fun h => hb61 (UInt8.toNat_inj.1 (show b.toNat = (61 : UInt8).toNat by have : (61 : UInt8).toNat = 61 := rfl; omega))
                  have hbz2 : ¬ b.toNat = 61 := by omega
                  have HDE := Lib.hid (chunk_err HC.out hk4 hne.out HL.out (.inr ⟨b, HBC.out, .inr ⟨hp, fun h => hb61 h.1⟩⟩))
                  clear hWl hkl hb61
                  go_wp2_with fail
                  refine bodyPost_ret (results_tmp3 rfl _ _ _) rfl ?_
                  refine ⟨?_, HB.out.below⟩
                  rw [HB.out.eq, HDE.out]
                  exact ⟨_, rfl⟩
            · have hinz : (s.length : Int) ≤ ((j + k : Nat) : Int) := by omega
              clear hWm
              go_wp2_with fail
              refine bodyPost_ret (results_tmp3 rfl _ _ _) rfl ?_
              have hd := chunk_err HC.out hk4 hne.out HL.out (.inl (by rw [hdl.out]; rw [hdl.out] at hkl; omega))
              refine ⟨?_, HB.out.below⟩
              rw [HB.out.eq, hd]
              exact ⟨_, rfl⟩
          · obtain rfl : k = 4 := by omega
            have hkz : ¬ ((j + 4 : Nat) : Int) < (j : Int) + 4 := by omega
            clear hWm
            obtain ⟨x, y, z, t, l, hd4⟩ : ∃ x y z t l, s.drop j = x :: y :: z :: t :: l := by
              match hs : s.drop j, hkl with
              | x :: y :: z :: t :: l, _ => exact ⟨x, y, z, t, l, rfl⟩
            have hl4 : Hid (s.drop (j + 4) = l) := by
              show _ = _
              have := congrArg (List.drop 4) hd4
              rw [List.drop_drop] at this
              simpa [Nat.add_comm] using this
            have HC4 := HC.out
            rw [hd4] at HC4
            obtain ⟨⟨hm2, hm4⟩, hdec⟩ := chunk_ok HC4
            have hlle : l.isEmpty = false := by
              rw [HL.out, hd4]
              cases l with
              | nil => rfl
              | cons a l => simp
            have HD4 : Hid (dec64 (s.drop j) = match (if W * 2 ^ (8 * (m - 1)) % 16777216 = 0 then some ((bytes3 W).take (m - 1)) else none), dec64 l with
                | some a, some b => some (a ++ b)
                | _, _ => none) := by
              show _ = _
              rw [hd4, ← hdec, ← hlle]
              rfl
            have hkl4 : j + 4 ≤ s.length := by rw [hdl.out] at hkl; omega
            clear HC4 hdec hlle hd4 hmk hkl
            rcases (by omega : m = 2 ∨ m = 3 ∨ m = 4) with rfl | rfl | rfl
            · have hand := dand2 hWl
              by_cases hV : W * 256 % 16777216 = 0
              · rw [hV] at hand
                have HDE : Hid (dec64 (s.drop j) = (dec64 l).map ((bytes3 W).take (2 - 1) ++ ·)) := by
                  show _ = _
                  rw [HD4.out, if_pos (show W * 2 ^ (8 * (2 - 1)) % 16777216 = 0 from hV)]
                  cases dec64 l <;> rfl
                clear HD4 hV
                have HWL := Lib.hid hWl
                clear hWl
                go_wp2_with fail
                obtain ⟨wo, hwo⟩ : ∃ wo, wo = wr := ⟨wr, rfl⟩
                subst hwo
                go_loopg [5, 91] 5 (fun gg3 s5 s91 wr => ∃ (i : Nat) (o : List UInt8) (v : Value), i ≤ 1 ∧ 4 - i < gg3 ∧ s91 = .int .i64 (i : Int) ∧ s5 = v ∧ Hid (Ub64In w wo wr out o W i v))
                case atStart => exact ⟨0, out, _, by omega, by omega, rfl, rfl, by simp, HB.out.own, Below.refl _ _⟩
                case round =>
                  obtain ⟨i, o, v, hi4, hg3, rfl, hv, HO⟩ := hrel
                  obtain ⟨av2, cv2, hva⟩ := own_form HO.out.own
                  rw [hva] at hv
                  subst hv hva
                  by_cases hiM : i < 1
                  · have hiz : (i : Int) < 1 := by omega
                    have hol := HO.out.len
                    have hol2 := HB.out.len
                    have hz5 : w.heap.size ≤ wr.heap.size := Nat.le_trans HB.out.below.size HO.out.below.size
                    rcases (by omega : i = 0) with rfl
                    · have B5 : Hid (Below wr.heap.size wr (wr.alloc (.cells #[.int .u8 ((W : Int) / 65536 % 256)] 5))) := below_alloc (Below.refl _ _) (Nat.le_refl _) _
                      have O5 : Hid ((wr.alloc (.cells #[.int .u8 ((W : Int) / 65536 % 256)] 5)).ownsRow w.heap.size 5 1 (.slice av2 o.length cv2) o.length (byteCells o)) := own_later HO.out.own B5.out
                      have H5 : Hid ((wr.alloc (.cells #[.int .u8 ((W : Int) / 65536 % 256)] 5)).heap[wr.heap.size]? = some (.cells #[.int .u8 ((W : Int) / 65536 % 256)] 5 (0, 0))) := heap_alloc_new _ _
                      have hz6 := B5.out.size
                      go_wp2_with (at_builtin; refine wpList_append_own_wide _ rfl _ _ 75 rfl w.heap.size 5 i0 (.int .u8 0) 1 1 Tryd.underlying75 hi hz0 hz1 hz2 rfl (by decide) _ _ _ rfl O5.out ⟨wr.heap.size, 0, none⟩ 1 1 [.int .u8 ((W : Int) / 65536 % 256)] rfl rfl ?c1 ?c2 ?c3 ?c4 ?c5 ?_)
                      case c1 =>
                        intro j u hj
                        rw [show ((⟨wr.heap.size, 0, none⟩ : Addr).add j) = ⟨wr.heap.size, j, none⟩ by rw [Addr.add_lit, Nat.zero_add]]
                        exact (cell_of_heap H5.out).trans (by simpa using hj)
                      case c2 => simp [Value.oneCell']
                      case c3 => simp only [maxLen]; omega
                      case c4 => omega
                      case c5 => omega
                      intro v' w7 hown' hgrow _
                      have B7 := Lib.hid ((HO.out.below.trans (B5.out.mono hz5)).grown hgrow (Nat.le_trans hz5 B5.out.size) (fun k hk => (HO.out.own.lt k hk).1))
                      have HN := Lib.hid (HO.out.step _ rfl _ byte30 hown' B7.out)
                      go_wp2_with fail
                      go_roundg (gk - 1)
                      case measure => omega
                      case rel => exact ⟨0 + 1, _, v', by omega, by omega, by go_num, rfl, HN.out⟩
                  · obtain rfl : i = 1 := by omega
                    have HN := Lib.hid (HB.out.next (m := 2) HDE.out hl4.out (by decide) HO.out)
                    go_wp2_with fail
                    go_roundg (s.length - (j + 4))
                    case measure => omega
                    case rel => exact ⟨j + 4, o, .slice av2 o.length cv2, by omega, by omega, by go_num, rfl, HN.out⟩
              · have HDE : Hid (dec64 (s.drop j) = none) := by
                  show _ = _
                  rw [HD4.out, if_neg (show ¬ W * 2 ^ (8 * (2 - 1)) % 16777216 = 0 from hV)]
                obtain ⟨V, hVe⟩ : ∃ V, W * 256 % 16777216 = V := ⟨_, rfl⟩
                rw [hVe] at hand hV
                have hVz : ¬ (V : Int) = 0 := by omega
                clear HD4 hVe hWl
                go_wp2_with fail
                refine bodyPost_ret (results_tmp3 rfl _ _ _) rfl ?_
                refine ⟨?_, HB.out.below⟩
                rw [HB.out.eq, HDE.out]
                exact ⟨_, rfl⟩
            · have hand := dand3 hWl
              by_cases hV : W * 65536 % 16777216 = 0
              · rw [hV] at hand
                have HDE : Hid (dec64 (s.drop j) = (dec64 l).map ((bytes3 W).take (3 - 1) ++ ·)) := by
                  show _ = _
                  rw [HD4.out, if_pos (show W * 2 ^ (8 * (3 - 1)) % 16777216 = 0 from hV)]
                  cases dec64 l <;> rfl
                clear HD4 hV
                have HWL := Lib.hid hWl
                clear hWl
                go_wp2_with fail
                obtain ⟨wo, hwo⟩ : ∃ wo, wo = wr := ⟨wr, rfl⟩
                subst hwo
                go_loopg [5, 91] 5 (fun gg3 s5 s91 wr => ∃ (i : Nat) (o : List UInt8) (v : Value), i ≤ 2 ∧ 4 - i < gg3 ∧ s91 = .int .i64 (i : Int) ∧ s5 = v ∧ Hid (Ub64In w wo wr out o W i v))
                case atStart => exact ⟨0, out, _, by omega, by omega, rfl, rfl, by simp, HB.out.own, Below.refl _ _⟩
                case round =>
                  obtain ⟨i, o, v, hi4, hg3, rfl, hv, HO⟩ := hrel
                  obtain ⟨av2, cv2, hva⟩ := own_form HO.out.own
                  rw [hva] at hv
                  subst hv hva
                  by_cases hiM : i < 2
                  · have hiz : (i : Int) < 2 := by omega
                    have hol := HO.out.len
                    have hol2 := HB.out.len
                    have hz5 : w.heap.size ≤ wr.heap.size := Nat.le_trans HB.out.below.size HO.out.below.size
                    rcases (by omega : i = 0 ∨ i = 1) with rfl | rfl
                    · have B5 : Hid (Below wr.heap.size wr (wr.alloc (.cells #[.int .u8 ((W : Int) / 65536 % 256)] 5))) := below_alloc (Below.refl _ _) (Nat.le_refl _) _
                      have O5 : Hid ((wr.alloc (.cells #[.int .u8 ((W : Int) / 65536 % 256)] 5)).ownsRow w.heap.size 5 1 (.slice av2 o.length cv2) o.length (byteCells o)) := own_later HO.out.own B5.out
                      have H5 : Hid ((wr.alloc (.cells #[.int .u8 ((W : Int) / 65536 % 256)] 5)).heap[wr.heap.size]? = some (.cells #[.int .u8 ((W : Int) / 65536 % 256)] 5 (0, 0))) := heap_alloc_new _ _
                      have hz6 := B5.out.size
                      go_wp2_with (at_builtin; refine wpList_append_own_wide _ rfl _ _ 75 rfl w.heap.size 5 i0 (.int .u8 0) 1 1 Tryd.underlying75 hi hz0 hz1 hz2 rfl (by decide) _ _ _ rfl O5.out ⟨wr.heap.size, 0, none⟩ 1 1 [.int .u8 ((W : Int) / 65536 % 256)] rfl rfl ?c1 ?c2 ?c3 ?c4 ?c5 ?_)
                      case c1 =>
                        intro j u hj
                        rw [show ((⟨wr.heap.size, 0, none⟩ : Addr).add j) = ⟨wr.heap.size, j, none⟩ by rw [Addr.add_lit, Nat.zero_add]]
                        exact (cell_of_heap H5.out).trans (by simpa using hj)
                      case c2 => simp [Value.oneCell']
                      case c3 => simp only [maxLen]; omega
                      case c4 => omega
                      case c5 => omega
                      intro v' w7 hown' hgrow _
                      have B7 := Lib.hid ((HO.out.below.trans (B5.out.mono hz5)).grown hgrow (Nat.le_trans hz5 B5.out.size) (fun k hk => (HO.out.own.lt k hk).1))
                      have HN := Lib.hid (HO.out.step _ rfl _ byte30 hown' B7.out)
                      go_wp2_with fail
                      go_roundg (gk - 1)
                      case measure => omega
                      case rel => exact ⟨0 + 1, _, v', by omega, by omega, by go_num, rfl, HN.out⟩
                    · have B5 : Hid (Below wr.heap.size wr (wr.alloc (.cells #[.int .u8 ((W : Int) / 256 % 256)] 5))) := below_alloc (Below.refl _ _) (Nat.le_refl _) _
                      have O5 : Hid ((wr.alloc (.cells #[.int .u8 ((W : Int) / 256 % 256)] 5)).ownsRow w.heap.size 5 1 (.slice av2 o.length cv2) o.length (byteCells o)) := own_later HO.out.own B5.out
                      have H5 : Hid ((wr.alloc (.cells #[.int .u8 ((W : Int) / 256 % 256)] 5)).heap[wr.heap.size]? = some (.cells #[.int .u8 ((W : Int) / 256 % 256)] 5 (0, 0))) := heap_alloc_new _ _
                      have hz6 := B5.out.size
                      go_wp2_with (at_builtin; refine wpList_append_own_wide _ rfl _ _ 75 rfl w.heap.size 5 i0 (.int .u8 0) 1 1 Tryd.underlying75 hi hz0 hz1 hz2 rfl (by decide) _ _ _ rfl O5.out ⟨wr.heap.size, 0, none⟩ 1 1 [.int .u8 ((W : Int) / 256 % 256)] rfl rfl ?c1 ?c2 ?c3 ?c4 ?c5 ?_)
                      case c1 =>
                        intro j u hj
                        rw [show ((⟨wr.heap.size, 0, none⟩ : Addr).add j) = ⟨wr.heap.size, j, none⟩ by rw [Addr.add_lit, Nat.zero_add]]
                        exact (cell_of_heap H5.out).trans (by simpa using hj)
                      case c2 => simp [Value.oneCell']
                      case c3 => simp only [maxLen]; omega
                      case c4 => omega
                      case c5 => omega
                      intro v' w7 hown' hgrow _
                      have B7 := Lib.hid ((HO.out.below.trans (B5.out.mono hz5)).grown hgrow (Nat.le_trans hz5 B5.out.size) (fun k hk => (HO.out.own.lt k hk).1))
                      have HN := Lib.hid (HO.out.step _ rfl _ byte31 hown' B7.out)
                      go_wp2_with fail
                      go_roundg (gk - 1)
                      case measure => omega
                      case rel => exact ⟨1 + 1, _, v', by omega, by omega, by go_num, rfl, HN.out⟩
                  · obtain rfl : i = 2 := by omega
                    have HN := Lib.hid (HB.out.next (m := 3) HDE.out hl4.out (by decide) HO.out)
                    go_wp2_with fail
                    go_roundg (s.length - (j + 4))
                    case measure => omega
                    case rel => exact ⟨j + 4, o, .slice av2 o.length cv2, by omega, by omega, by go_num, rfl, HN.out⟩
              · have HDE : Hid (dec64 (s.drop j) = none) := by
                  show _ = _
                  rw [HD4.out, if_neg (show ¬ W * 2 ^ (8 * (3 - 1)) % 16777216 = 0 from hV)]
                obtain ⟨V, hVe⟩ : ∃ V, W * 65536 % 16777216 = V := ⟨_, rfl⟩
                rw [hVe] at hand hV
                have hVz : ¬ (V : Int) = 0 := by omega
                clear HD4 hVe hWl
                go_wp2_with fail
                refine bodyPost_ret (results_tmp3 rfl _ _ _) rfl ?_
                refine ⟨?_, HB.out.below⟩
                rw [HB.out.eq, HDE.out]
                exact ⟨_, rfl⟩
            · have hand := dand4 hWl
              by_cases hV : W * 16777216 % 16777216 = 0
              · rw [hV] at hand
                have HDE : Hid (dec64 (s.drop j) = (dec64 l).map ((bytes3 W).take (4 - 1) ++ ·)) := by
                  show _ = _
                  rw [HD4.out, if_pos (show W * 2 ^ (8 * (4 - 1)) % 16777216 = 0 from hV)]
                  cases dec64 l <;> rfl
                clear HD4 hV
                have HWL := Lib.hid hWl
                clear hWl
                go_wp2_with fail
                obtain ⟨wo, hwo⟩ : ∃ wo, wo = wr := ⟨wr, rfl⟩
                subst hwo
                go_loopg [5, 91] 5 (fun gg3 s5 s91 wr => ∃ (i : Nat) (o : List UInt8) (v : Value), i ≤ 3 ∧ 4 - i < gg3 ∧ s91 = .int .i64 (i : Int) ∧ s5 = v ∧ Hid (Ub64In w wo wr out o W i v))
                case atStart => exact ⟨0, out, _, by omega, by omega, rfl, rfl, by simp, HB.out.own, Below.refl _ _⟩
                case round =>
                  obtain ⟨i, o, v, hi4, hg3, rfl, hv, HO⟩ := hrel
                  obtain ⟨av2, cv2, hva⟩ := own_form HO.out.own
                  rw [hva] at hv
                  subst hv hva
                  by_cases hiM : i < 3
                  · have hiz : (i : Int) < 3 := by omega
                    have hol := HO.out.len
                    have hol2 := HB.out.len
                    have hz5 : w.heap.size ≤ wr.heap.size := Nat.le_trans HB.out.below.size HO.out.below.size
                    rcases (by omega : i = 0 ∨ i = 1 ∨ i = 2) with rfl | rfl | rfl
                    · have B5 : Hid (Below wr.heap.size wr (wr.alloc (.cells #[.int .u8 ((W : Int) / 65536 % 256)] 5))) := below_alloc (Below.refl _ _) (Nat.le_refl _) _
                      have O5 : Hid ((wr.alloc (.cells #[.int .u8 ((W : Int) / 65536 % 256)] 5)).ownsRow w.heap.size 5 1 (.slice av2 o.length cv2) o.length (byteCells o)) := own_later HO.out.own B5.out
                      have H5 : Hid ((wr.alloc (.cells #[.int .u8 ((W : Int) / 65536 % 256)] 5)).heap[wr.heap.size]? = some (.cells #[.int .u8 ((W : Int) / 65536 % 256)] 5 (0, 0))) := heap_alloc_new _ _
                      have hz6 := B5.out.size
                      go_wp2_with (at_builtin; refine wpList_append_own_wide _ rfl _ _ 75 rfl w.heap.size 5 i0 (.int .u8 0) 1 1 Tryd.underlying75 hi hz0 hz1 hz2 rfl (by decide) _ _ _ rfl O5.out ⟨wr.heap.size, 0, none⟩ 1 1 [.int .u8 ((W : Int) / 65536 % 256)] rfl rfl ?c1 ?c2 ?c3 ?c4 ?c5 ?_)
                      case c1 =>
                        intro j u hj
                        rw [show ((⟨wr.heap.size, 0, none⟩ : Addr).add j) = ⟨wr.heap.size, j, none⟩ by rw [Addr.add_lit, Nat.zero_add]]
                        exact (cell_of_heap H5.out).trans (by simpa using hj)
                      case c2 => simp [Value.oneCell']
                      case c3 => simp only [maxLen]; omega
                      case c4 => omega
                      case c5 => omega
                      intro v' w7 hown' hgrow _
                      have B7 := Lib.hid ((HO.out.below.trans (B5.out.mono hz5)).grown hgrow (Nat.le_trans hz5 B5.out.size) (fun k hk => (HO.out.own.lt k hk).1))
                      have HN := Lib.hid (HO.out.step _ rfl _ byte30 hown' B7.out)
                      go_wp2_with fail
                      go_roundg (gk - 1)
                      case measure => omega
                      case rel => exact ⟨0 + 1, _, v', by omega, by omega, by go_num, rfl, HN.out⟩
                    · have B5 : Hid (Below wr.heap.size wr (wr.alloc (.cells #[.int .u8 ((W : Int) / 256 % 256)] 5))) := below_alloc (Below.refl _ _) (Nat.le_refl _) _
                      have O5 : Hid ((wr.alloc (.cells #[.int .u8 ((W : Int) / 256 % 256)] 5)).ownsRow w.heap.size 5 1 (.slice av2 o.length cv2) o.length (byteCells o)) := own_later HO.out.own B5.out
                      have H5 : Hid ((wr.alloc (.cells #[.int .u8 ((W : Int) / 256 % 256)] 5)).heap[wr.heap.size]? = some (.cells #[.int .u8 ((W : Int) / 256 % 256)] 5 (0, 0))) := heap_alloc_new _ _
                      have hz6 := B5.out.size
                      go_wp2_with (at_builtin; refine wpList_append_own_wide _ rfl _ _ 75 rfl w.heap.size 5 i0 (.int .u8 0) 1 1 Tryd.underlying75 hi hz0 hz1 hz2 rfl (by decide) _ _ _ rfl O5.out ⟨wr.heap.size, 0, none⟩ 1 1 [.int .u8 ((W : Int) / 256 % 256)] rfl rfl ?c1 ?c2 ?c3 ?c4 ?c5 ?_)
                      case c1 =>
                        intro j u hj
                        rw [show ((⟨wr.heap.size, 0, none⟩ : Addr).add j) = ⟨wr.heap.size, j, none⟩ by rw [Addr.add_lit, Nat.zero_add]]
                        exact (cell_of_heap H5.out).trans (by simpa using hj)
                      case c2 => simp [Value.oneCell']
                      case c3 => simp only [maxLen]; omega
                      case c4 => omega
                      case c5 => omega
                      intro v' w7 hown' hgrow _
                      have B7 := Lib.hid ((HO.out.below.trans (B5.out.mono hz5)).grown hgrow (Nat.le_trans hz5 B5.out.size) (fun k hk => (HO.out.own.lt k hk).1))
                      have HN := Lib.hid (HO.out.step _ rfl _ byte31 hown' B7.out)
                      go_wp2_with fail
                      go_roundg (gk - 1)
                      case measure => omega
                      case rel => exact ⟨1 + 1, _, v', by omega, by omega, by go_num, rfl, HN.out⟩
                    · have B5 : Hid (Below wr.heap.size wr (wr.alloc (.cells #[.int .u8 ((W : Int) % 256)] 5))) := below_alloc (Below.refl _ _) (Nat.le_refl _) _
                      have O5 : Hid ((wr.alloc (.cells #[.int .u8 ((W : Int) % 256)] 5)).ownsRow w.heap.size 5 1 (.slice av2 o.length cv2) o.length (byteCells o)) := own_later HO.out.own B5.out
                      have H5 : Hid ((wr.alloc (.cells #[.int .u8 ((W : Int) % 256)] 5)).heap[wr.heap.size]? = some (.cells #[.int .u8 ((W : Int) % 256)] 5 (0, 0))) := heap_alloc_new _ _
                      have hz6 := B5.out.size
                      go_wp2_with (at_builtin; refine wpList_append_own_wide _ rfl _ _ 75 rfl w.heap.size 5 i0 (.int .u8 0) 1 1 Tryd.underlying75 hi hz0 hz1 hz2 rfl (by decide) _ _ _ rfl O5.out ⟨wr.heap.size, 0, none⟩ 1 1 [.int .u8 ((W : Int) % 256)] rfl rfl ?c1 ?c2 ?c3 ?c4 ?c5 ?_)
                      case c1 =>
                        intro j u hj
                        rw [show ((⟨wr.heap.size, 0, none⟩ : Addr).add j) = ⟨wr.heap.size, j, none⟩ by rw [Addr.add_lit, Nat.zero_add]]
                        exact (cell_of_heap H5.out).trans (by simpa using hj)
                      case c2 => simp [Value.oneCell']
                      case c3 => simp only [maxLen]; omega
                      case c4 => omega
                      case c5 => omega
                      intro v' w7 hown' hgrow _
                      have B7 := Lib.hid ((HO.out.below.trans (B5.out.mono hz5)).grown hgrow (Nat.le_trans hz5 B5.out.size) (fun k hk => (HO.out.own.lt k hk).1))
                      have HN := Lib.hid (HO.out.step _ rfl _ byte32 hown' B7.out)
                      go_wp2_with fail
                      go_roundg (gk - 1)
                      case measure => omega
                      case rel => exact ⟨2 + 1, _, v', by omega, by omega, by go_num, rfl, HN.out⟩
                  · obtain rfl : i = 3 := by omega
                    have HN := Lib.hid (HB.out.next (m := 4) HDE.out hl4.out (by decide) HO.out)
                    go_wp2_with fail
                    go_roundg (s.length - (j + 4))
                    case measure => omega
                    case rel => exact ⟨j + 4, o, .slice av2 o.length cv2, by omega, by omega, by go_num, rfl, HN.out⟩
              · have HDE : Hid (dec64 (s.drop j) = none) := by
                  show _ = _
                  rw [HD4.out, if_neg (show ¬ W * 2 ^ (8 * (4 - 1)) % 16777216 = 0 from hV)]
                obtain ⟨V, hVe⟩ : ∃ V, W * 16777216 % 16777216 = V := ⟨_, rfl⟩
                rw [hVe] at hand hV
                have hVz : ¬ (V : Int) = 0 := by omega
                clear HD4 hVe hWl
                go_wp2_with fail
                refine bodyPost_ret (results_tmp3 rfl _ _ _) rfl ?_
                refine ⟨?_, HB.out.below⟩
                rw [HB.out.eq, HDE.out]
                exact ⟨_, rfl⟩
    · have hltz : ¬ (j : Int) < (s.length : Int) := by omega
      have hcv := own_text HB.out.own
      go_wp2_with fail
      refine bodyPost_ret (results_tmp3 rfl _ _ _) rfl ?_
      refine ⟨?_, HB.out.below⟩
      have := HB.out.eq
      rw [List.drop_of_length_le (by omega)] at this
      rw [this]
      simp [dec64]
end Go.Proofs.YtgklbmcnpnmkkaaDoor
