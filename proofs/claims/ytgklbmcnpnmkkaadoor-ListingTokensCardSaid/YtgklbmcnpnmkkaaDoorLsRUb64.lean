/-
  storehouseref01.Unbase64: it is dec64. (Printed by wip/gen/lsrub64.py.)
-/
import Derived.Test.YtgklbmcnpnmkkaaDoorSm26
import Derived.Test.YtgklbmcnpnmkkaaDoorLsUb64
namespace Go.Proofs.YtgklbmcnpnmkkaaDoor
open Go.RowKit Go.Lib

theorem chunk_padded {c : List UInt8} {last : Bool} {k m W : Nat} (h : Chunk c last k m W) (hm : m < k) : last = true ∧ 2 ≤ k := by
  cases h with
  | z => omega
  | dig h hm hd => omega
  | pad h hk hc hl h2 => exact ⟨hl, by omega⟩
theorem byte30b {W : Nat} (h : W < 16777216) : (((UInt8.ofNat (W / 65536)).toNat : Nat) : Int) = (W : Int) / 65536 := by rw [UInt8.toNat_ofNat']; omega
theorem run_one {n W A B : Nat} (hA : A = 64 * B) (hB : 0 < B) (hW : W = n * A) : W = (64 * n) * B ∧ n ≤ W ∧ (∀ d, W + d * B = (64 * n + d) * B) := by
  have e : W = (64 * n) * B := by rw [hW, hA, ← Nat.mul_assoc, Nat.mul_comm n 64]
  refine ⟨e, ?_, fun d => by rw [e, ← Nat.add_mul]⟩
  rw [e]
  exact Nat.le_trans (by omega) (Nat.le_mul_of_pos_right (64 * n) hB)
theorem run_step {n k : Nat} {W : Nat} (hk : k < 4) (hW : W = n * 2 ^ (24 - 6 * k)) : W = (64 * n) * 2 ^ (24 - 6 * (k + 1)) ∧ n ≤ W ∧ (∀ d, W + d * 2 ^ (18 - 6 * k) = (64 * n + d) * 2 ^ (24 - 6 * (k + 1))) := by
  have e : 18 - 6 * k = 24 - 6 * (k + 1) := by omega
  rw [e]
  refine run_one ?_ (Nat.pow_pos (by decide)) hW
  rw [show 24 - 6 * k = 6 + (24 - 6 * (k + 1)) by omega, Nat.pow_add]

set_option maxHeartbeats 16000000 in
set_option maxRecDepth 100000 in
theorem rUnbase64_any (s : List UInt8) (w : World) (hl : s.length ≤ 200000000000000) : Calls Tryd.prog 35 #[.string ⟨s.toArray⟩] w (Ub64Out s w) := by
  obtain ⟨i0, hi, hz0, hz1, hz2⟩ := info_byte
  have hsz : (⟨s.toArray⟩ : ByteArray).size = s.length := by simp [ByteArray.size]
  go_enter Tryd.func35, Tryd.ntmps35
  go_wp2_with fail
  go_loopg [5, 6] s.length (fun gg s5 s6 wr => ∃ (j : Nat) (out : List UInt8) (v : Value), s.length - j ≤ gg ∧ j ≤ s.length + 3 ∧ s6 = .int .i64 j ∧ s5 = v ∧ Hid (Ub64At w wr s out j v))
  case atStart => exact ⟨0, [], _, by omega, by omega, rfl, rfl, World.ownsRow_nil _ _ _ _, by rw [List.drop_zero]; simp, Nat.le_refl _, Below.refl _ _⟩
  case round =>
    obtain ⟨j, out, v, hg, hj, rfl, hv, HB⟩ := hrel
    obtain ⟨av, cv, hva⟩ := own_form HB.out.own
    rw [hva] at hv
    subst hv hva
    by_cases hlt : j < s.length
    · have hltz : (j : Int) < (s.length : Int) := by omega
      have hne : Hid (s.drop j ≠ []) := fun h => by have := congrArg List.length h; rw [List.length_drop] at this; simp at this; omega
      have hdl : Hid ((s.drop j).length = s.length - j) := List.length_drop
      obtain ⟨last, hlast⟩ : ∃ last, decide ((s.length : Int) - (j : Int) ≤ 4) = last := ⟨_, rfl⟩
      have HL : Hid (last = decide ((s.drop j).length ≤ 4)) := by
        show _ = _
        rw [← hlast, hdl.out]
        apply Bool.eq_iff_iff.2
        simp only [decide_eq_true_eq]
        omega
      obtain ⟨wo, hwo⟩ : ∃ wo, wo = wr := ⟨wr, rfl⟩
      subst hwo
      go_wp2_with fail
      go_loopg [7, 8, 10] 5 (fun gg2 s7 s8 s10 wr => ∃ (k m n W : Nat), k ≤ 4 ∧ 4 - k < gg2 ∧ s7 = .int .i64 n ∧ s8 = .int .i64 m ∧ s10 = .int .i64 k ∧ wr = wo ∧ Hid (Chunk (s.drop j) last k m W) ∧ Hid (W = n * 2 ^ (24 - 6 * k)))
      case atStart => exact ⟨0, 0, 0, 0, by omega, by omega, rfl, rfl, rfl, rfl, .z, rfl⟩
      case round =>
        obtain ⟨k, m, n, W, hk, hg2, rfl, rfl, rfl, rfl, HC, HW⟩ := hrel
        obtain ⟨hmk, _, hkl, hWm, hWl⟩ := HC.out.fits
        have HWM := Lib.hid hWm
        clear hWm
        by_cases hk4 : k < 4
        · have hkz : (k : Int) < 4 := by omega
          obtain ⟨HS1, hnW, HS2⟩ := run_step hk4 HW.out
          have HS1 := Lib.hid HS1
          have HS2 := Lib.hid HS2
          have hnb : n ≤ 16777215 := by omega
          by_cases hin : j + k < s.length
          · have hinz : ¬ (s.length : Int) ≤ (j : Int) + (k : Int) := by omega
            have hinz2 : (j : Int) + (k : Int) < (s.length : Int) := by omega
            obtain ⟨b, hb⟩ : ∃ b, s[j + k]? = some b := ⟨_, List.getElem?_eq_getElem hin⟩
            have HBC : Hid ((s.drop j)[k]? = some b) := by show _ = _; rw [List.getElem?_drop]; exact hb
            obtain ⟨hi1, hge⟩ := str_get hb
            clear hb hWl hkl hnW
            go_wp2_with fail
            refine (place_any b _).mono ?_
            rintro e w5 ⟨rfl, rfl⟩
            by_cases hmk2 : m = k
            · subst hmk2
              have hmm : ¬ (m : Int) < (m : Int) := by omega
              cases hp : plc b with
              | some d =>
                have hpI : plcI b = (d : Int) := by unfold plcI; rw [hp]
                have hd64 : d < 64 := plc_lt hp
                have hd0 : (0 : Int) ≤ (d : Int) := by omega
                have hd1 : ¬ (d : Int) < 0 := by omega
                have hbd : ((s.drop j)[m]?).bind plc = some d := by rw [HBC.out]; exact hp
                have HN : Hid (Chunk (s.drop j) last (m + 1) (m + 1) (W + d * 2 ^ (18 - 6 * m))) := .dig HC.out hk4 hbd
                have HWN : Hid (W + d * 2 ^ (18 - 6 * m) = (64 * n + d) * 2 ^ (24 - 6 * (m + 1))) := HS2.out d
                have hb61 : ¬ (b.toNat : Int) = 61 := fun h => plc61 (by rw [hp]; rfl) (UInt8.toNat_inj.1 (show b.toNat = (61 : UInt8).toNat by have : (61 : UInt8).toNat = 61 := rfl; omega))
                have hb62 : ¬ b.toNat = 61 := by omega
                rw [hpI]
                clear hpI hbd hp
                go_wp2_with fail
                go_roundg (gk - 1)
                case measure => omega
                case rel => exact ⟨m + 1, m + 1, 64 * n + d, _, by omega, by omega, veq (by omega), vnext, vnext, rfl, HN.out, HWN.out⟩
              | none =>
                have hpI : plcI b = -1 := by unfold plcI; rw [hp]
                by_cases hb61 : b = 61
                · have hbz : (b.toNat : Int) = 61 := by rw [hb61]; rfl
                  have hbz2 : b.toNat = 61 := by rw [hb61]; rfl
                  by_cases hlk : last = true ∧ 2 ≤ m
                  · obtain ⟨hlt1, hk2⟩ := hlk
                    subst hlt1
                    have hk2z : (2 : Int) ≤ (m : Int) := by omega
                    have HN : Hid (Chunk (s.drop j) true (m + 1) m W) := .pad HC.out hk4 (by rw [HBC.out, hb61]) rfl hk2
                    have HWN : Hid (W = 64 * n * 2 ^ (24 - 6 * (m + 1))) := HS1
                    rw [hpI]
                    clear hpI hp hb61 hk2
                    go_wp2_with fail
                    go_roundg (gk - 1)
                    case measure => omega
                    case rel => exact ⟨m + 1, m, 64 * n, W, by omega, by omega, veq (by omega), rfl, vnext, rfl, HN.out, HWN.out⟩
                  · have HDE := Lib.hid (chunk_err HC.out hk4 hne.out HL.out (.inr ⟨b, HBC.out, .inr ⟨hp, fun h => hlk h.2⟩⟩))
                    rw [hpI]
                    by_cases hk2 : 2 ≤ m
                    · have hk2z : (2 : Int) ≤ (m : Int) := by omega
                      have hl0 : last = false := by cases last; rfl; exact absurd ⟨rfl, hk2⟩ hlk
                      subst hl0
                      clear hpI hp hb61 hlk hk2
                      go_wp2_with fail
                      refine bodyPost_ret (results_tmp3 rfl _ _ _) rfl ?_
                      refine ⟨?_, HB.out.below⟩
                      rw [HB.out.eq, HDE.out]
                      exact ⟨_, rfl⟩
                    · have hk2z : decide ((2 : Int) ≤ (m : Int)) = false := by rw [decide_eq_false_iff_not]; omega
                      clear hpI hp hb61 hlk hk2
                      cases last
                      · go_wp2_with fail
                        refine bodyPost_ret (results_tmp3 rfl _ _ _) rfl ?_
                        refine ⟨?_, HB.out.below⟩
                        rw [HB.out.eq, HDE.out]
                        exact ⟨_, rfl⟩
                      · go_wp2_with fail
                        refine bodyPost_ret (results_tmp3 rfl _ _ _) rfl ?_
                        refine ⟨?_, HB.out.below⟩
                        rw [HB.out.eq, HDE.out]
                        exact ⟨_, rfl⟩
                · have hbz : ¬ (b.toNat : Int) = 61 := fun h => hb61 (UInt8.toNat_inj.1 (show b.toNat = (61 : UInt8).toNat by have : (61 : UInt8).toNat = 61 := rfl; omega))
                  have hbz2 : ¬ b.toNat = 61 := by omega
                  have HDE := Lib.hid (chunk_err HC.out hk4 hne.out HL.out (.inr ⟨b, HBC.out, .inr ⟨hp, fun h => hb61 h.1⟩⟩))
                  rw [hpI]
                  clear hpI hp hb61
                  go_wp2_with fail
                  refine bodyPost_ret (results_tmp3 rfl _ _ _) rfl ?_
                  refine ⟨?_, HB.out.below⟩
                  rw [HB.out.eq, HDE.out]
                  exact ⟨_, rfl⟩
            · have hmm : (m : Int) < (k : Int) := by omega
              obtain ⟨hlt1, hk2⟩ := chunk_padded HC.out (by omega)
              subst hlt1
              by_cases hb61 : b = 61
              · have hbz : (b.toNat : Int) = 61 := by rw [hb61]; rfl
                have hbz2 : b.toNat = 61 := by rw [hb61]; rfl
                have HN : Hid (Chunk (s.drop j) true (k + 1) m W) := .pad HC.out hk4 (by rw [HBC.out, hb61]) rfl hk2
                have HWN : Hid (W = 64 * n * 2 ^ (24 - 6 * (k + 1))) := HS1
                have hk2z : (2 : Int) ≤ (k : Int) := by omega
                clear hb61 hk2
                generalize plcI b = pI
                go_wp2_with fail
                go_roundg (gk - 1)
                case measure => omega
                case rel => exact ⟨k + 1, m, 64 * n, W, by omega, by omega, veq (by omega), rfl, vnext, rfl, HN.out, HWN.out⟩
              · have hbz : ¬ (b.toNat : Int) = 61 := fun h => hb61 (UInt8.toNat_inj.1 (show b.toNat = (61 : UInt8).toNat by have : (61 : UInt8).toNat = 61 := rfl; omega))
                have hbz2 : ¬ b.toNat = 61 := by omega
                have HDE : Hid (dec64 (s.drop j) = none) := by
                  cases hp : plc b with
                  | some d => exact chunk_err HC.out hk4 hne.out HL.out (.inr ⟨b, HBC.out, .inl ⟨by rw [hp]; rfl, hmk2⟩⟩)
                  | none => exact chunk_err HC.out hk4 hne.out HL.out (.inr ⟨b, HBC.out, .inr ⟨hp, fun h => hb61 h.1⟩⟩)
                have hbz3 : ((b.toNat : Int) == 61) = false := beq_eq_false_iff_ne.2 hbz
                clear hb61 hk2
                generalize plcI b = pI
                go_wp2_with fail
                refine bodyPost_ret (results_tmp3 rfl _ _ _) rfl ?_
                refine ⟨?_, HB.out.below⟩
                rw [HB.out.eq, HDE.out]
                exact ⟨_, rfl⟩
          · have hinz : (s.length : Int) ≤ (j : Int) + (k : Int) := by omega
            have HDE := Lib.hid (chunk_err HC.out hk4 hne.out HL.out (.inl (by rw [hdl.out]; rw [hdl.out] at hkl; omega)))
            clear hWl hkl hnW
            go_wp2_with fail
            refine bodyPost_ret (results_tmp3 rfl _ _ _) rfl ?_
            refine ⟨?_, HB.out.below⟩
            rw [HB.out.eq, HDE.out]
            exact ⟨_, rfl⟩
        · obtain rfl : k = 4 := by omega
          have hkz : ¬ ((4 : Nat) : Int) < 4 := by omega
          obtain ⟨x, y, z, t, l, hd4⟩ : ∃ x y z t l, s.drop j = x :: y :: z :: t :: l := by
            match hs : s.drop j, hkl with
            | x :: y :: z :: t :: l, _ => exact ⟨x, y, z, t, l, rfl⟩
          have hl4 : Hid (s.drop (j + 4) = l) := by
            show _ = _
            have := congrArg (List.drop 4) hd4
            rw [List.drop_drop] at this
            simpa [Nat.add_comm] using this
          have HC4 := HC.out
          rw [hd4] at HC4
          obtain ⟨⟨hm2, hm4⟩, hdec⟩ := chunk_ok HC4
          have hlle : l.isEmpty = last := by
            rw [HL.out, hd4]
            cases l with
            | nil => rfl
            | cons a l => simp
          have HD4 : Hid (dec64 (s.drop j) = match (if W * 2 ^ (8 * (m - 1)) % 16777216 = 0 then some ((bytes3 W).take (m - 1)) else none), dec64 l with
              | some a, some b => some (a ++ b)
              | _, _ => none) := by
            show _ = _
            rw [hd4, ← hdec, ← hlle]
            rfl
          have hkl4 : j + 4 ≤ s.length := by rw [hdl.out] at hkl; omega
          have hWn : W = n := by rw [HW.out]; simp
          subst hWn
          clear HC4 hdec hlle hd4 hmk hkl HW HC
          rcases (by omega : m = 2 ∨ m = 3 ∨ m = 4) with rfl | rfl | rfl
          · skip
            obtain ⟨q, hq⟩ : ∃ q : Nat, W / 4096 = q := ⟨_, rfl⟩
            obtain ⟨r, hr⟩ : ∃ r : Nat, q % 16 = r := ⟨_, rfl⟩
            have f12 : (W : Int) / 4096 = (q : Int) := by omega
            have a16 : (q : Int).tmod 16 = (r : Int) := by rw [Int.tmod_eq_emod_of_nonneg (by omega)]; omega
            have vr : Value.int .i64 (wrap64 (r : Int)) = Value.int .i64 (r : Int) := vwrap (by omega) (by omega)
            by_cases hr0 : r = 0
            · have hV : W * 2 ^ (8 * (2 - 1)) % 16777216 = 0 := by have := HWM.out; simp only [Nat.reduceMul, Nat.reduceSub, Nat.reducePow] at this ⊢; omega
              subst hr0
              clear hq hr HWM
              have HDE : Hid (dec64 (s.drop j) = (dec64 l).map ((bytes3 W).take (2 - 1) ++ ·)) := by
                show _ = _
                rw [HD4.out, if_pos (show W * 2 ^ (8 * (2 - 1)) % 16777216 = 0 from hV)]
                cases dec64 l <;> rfl
              clear HD4 hV
              have hz5 : w.heap.size ≤ wr.heap.size := HB.out.below.size
              have B5 : Hid (Below wr.heap.size wr (wr.alloc (.cells #[.int .u8 ((W : Int) / 65536), .int .u8 ((W : Int) / 256 % 256), .int .u8 ((W : Int) % 256)] 5))) := below_alloc (Below.refl _ _) (Nat.le_refl _) _
              have O5 : Hid ((wr.alloc (.cells #[.int .u8 ((W : Int) / 65536), .int .u8 ((W : Int) / 256 % 256), .int .u8 ((W : Int) % 256)] 5)).ownsRow w.heap.size 5 1 (.slice av out.length cv) out.length (byteCells out)) := own_later HB.out.own B5.out
              have H5 : Hid ((wr.alloc (.cells #[.int .u8 ((W : Int) / 65536), .int .u8 ((W : Int) / 256 % 256), .int .u8 ((W : Int) % 256)] 5)).heap[wr.heap.size]? = some (.cells #[.int .u8 ((W : Int) / 65536), .int .u8 ((W : Int) / 256 % 256), .int .u8 ((W : Int) % 256)] 5 (0, 0))) := heap_alloc_new _ _
              have hz6 := B5.out.size
              have hol := HB.out.len
              go_wp2_with (at_builtin; skip; refine wpList_append_own_wide _ rfl _ _ 75 rfl w.heap.size 5 i0 (.int .u8 0) 1 1 Tryd.underlying75 hi hz0 hz1 hz2 rfl (by decide) _ _ _ rfl O5.out ⟨wr.heap.size, 0, none⟩ 1 3 [.int .u8 ((W : Int) / 65536)] rfl rfl ?c1 ?c2 ?c3 ?c4 ?c5 ?_)
              case c1 =>
                intro i u hi
                have hlt := (List.getElem?_eq_some_iff.1 hi).1
                simp only [List.length_cons, List.length_nil] at hlt
                match i, hlt with
                | 0, _ => simpa using hi
              case c2 => simp [Value.oneCell']
              case c3 => simp only [maxLen]; omega
              case c4 => omega
              case c5 => first | omega | (simp; omega)
              intro v' w7 hown' hgrow _
              have B7 : Below w.heap.size wr w7 := ((Below.refl _ _).trans (B5.out.mono hz5)).grown hgrow (Nat.le_trans hz5 B5.out.size) (fun k hk => (HB.out.own.lt k hk).1)
              have HO : Hid (Ub64In w wr w7 out (out ++ (bytes3 W).take (2 - 1)) W (2 - 1) v') := by
                refine ⟨rfl, ?_, B7⟩
                have e : byteCells (out ++ (bytes3 W).take (2 - 1)) = byteCells out ++ [.int .u8 ((W : Int) / 65536)] := by
                  rw [← byte30b hWl]
                  simp [byteCells, bytes3]
                have e2 : (out ++ (bytes3 W).take (2 - 1)).length = out.length + 1 := by simp [bytes3]
                rw [e, e2]
                exact hown'
              have HN := Lib.hid (HB.out.next (m := 2) HDE.out hl4.out (by decide) HO.out)
              clear hown' hgrow
              obtain ⟨av7, cv7, rfl⟩ := own_form HO.out.own
              go_wp2_with fail
              go_roundg (s.length - (j + 4))
              case measure => omega
              case rel => exact ⟨j + 4, _, _, by omega, by omega, veq (by first | rfl | exact wrap_nn (by omega) (by omega)), rfl, HN.out⟩
            · have hV : ¬ W * 2 ^ (8 * (2 - 1)) % 16777216 = 0 := by have := HWM.out; simp only [Nat.reduceMul, Nat.reduceSub, Nat.reducePow] at this ⊢; omega
              have hrz : ¬ (r : Int) = 0 := by omega
              have hrb : ((r : Int) == 0) = false := by simpa using hr0
              clear hq hr HWM hr0
              have HDE : Hid (dec64 (s.drop j) = none) := by
                show _ = _
                rw [HD4.out, if_neg (show ¬ W * 2 ^ (8 * (2 - 1)) % 16777216 = 0 from hV)]
              clear HD4 hV
              go_wp2_with fail
              refine bodyPost_ret (results_tmp3 rfl _ _ _) rfl ?_
              refine ⟨?_, HB.out.below⟩
              rw [HB.out.eq, HDE.out]
              exact ⟨_, rfl⟩
          · skip
            obtain ⟨q, hq⟩ : ∃ q : Nat, W / 64 = q := ⟨_, rfl⟩
            obtain ⟨r, hr⟩ : ∃ r : Nat, q % 4 = r := ⟨_, rfl⟩
            have f12 : (W : Int) / 64 = (q : Int) := by omega
            have a16 : (q : Int).tmod 4 = (r : Int) := by rw [Int.tmod_eq_emod_of_nonneg (by omega)]; omega
            have vr : Value.int .i64 (wrap64 (r : Int)) = Value.int .i64 (r : Int) := vwrap (by omega) (by omega)
            by_cases hr0 : r = 0
            · have hV : W * 2 ^ (8 * (3 - 1)) % 16777216 = 0 := by have := HWM.out; simp only [Nat.reduceMul, Nat.reduceSub, Nat.reducePow] at this ⊢; omega
              subst hr0
              clear hq hr HWM
              have HDE : Hid (dec64 (s.drop j) = (dec64 l).map ((bytes3 W).take (3 - 1) ++ ·)) := by
                show _ = _
                rw [HD4.out, if_pos (show W * 2 ^ (8 * (3 - 1)) % 16777216 = 0 from hV)]
                cases dec64 l <;> rfl
              clear HD4 hV
              have hz5 : w.heap.size ≤ wr.heap.size := HB.out.below.size
              have B5 : Hid (Below wr.heap.size wr (wr.alloc (.cells #[.int .u8 ((W : Int) / 65536), .int .u8 ((W : Int) / 256 % 256), .int .u8 ((W : Int) % 256)] 5))) := below_alloc (Below.refl _ _) (Nat.le_refl _) _
              have O5 : Hid ((wr.alloc (.cells #[.int .u8 ((W : Int) / 65536), .int .u8 ((W : Int) / 256 % 256), .int .u8 ((W : Int) % 256)] 5)).ownsRow w.heap.size 5 1 (.slice av out.length cv) out.length (byteCells out)) := own_later HB.out.own B5.out
              have H5 : Hid ((wr.alloc (.cells #[.int .u8 ((W : Int) / 65536), .int .u8 ((W : Int) / 256 % 256), .int .u8 ((W : Int) % 256)] 5)).heap[wr.heap.size]? = some (.cells #[.int .u8 ((W : Int) / 65536), .int .u8 ((W : Int) / 256 % 256), .int .u8 ((W : Int) % 256)] 5 (0, 0))) := heap_alloc_new _ _
              have hz6 := B5.out.size
              have hol := HB.out.len
              go_wp2_with (at_builtin; skip; refine wpList_append_own_wide _ rfl _ _ 75 rfl w.heap.size 5 i0 (.int .u8 0) 1 1 Tryd.underlying75 hi hz0 hz1 hz2 rfl (by decide) _ _ _ rfl O5.out ⟨wr.heap.size, 0, none⟩ 2 3 [.int .u8 ((W : Int) / 65536), .int .u8 ((W : Int) / 256 % 256)] rfl rfl ?c1 ?c2 ?c3 ?c4 ?c5 ?_)
              case c1 =>
                intro i u hi
                have hlt := (List.getElem?_eq_some_iff.1 hi).1
                simp only [List.length_cons, List.length_nil] at hlt
                match i, hlt with
                | 0, _ => simpa using hi
                | 1, _ => simpa using hi
              case c2 => simp [Value.oneCell']
              case c3 => simp only [maxLen]; omega
              case c4 => omega
              case c5 => first | omega | (simp; omega)
              intro v' w7 hown' hgrow _
              have B7 : Below w.heap.size wr w7 := ((Below.refl _ _).trans (B5.out.mono hz5)).grown hgrow (Nat.le_trans hz5 B5.out.size) (fun k hk => (HB.out.own.lt k hk).1)
              have HO : Hid (Ub64In w wr w7 out (out ++ (bytes3 W).take (3 - 1)) W (3 - 1) v') := by
                refine ⟨rfl, ?_, B7⟩
                have e : byteCells (out ++ (bytes3 W).take (3 - 1)) = byteCells out ++ [.int .u8 ((W : Int) / 65536), .int .u8 ((W : Int) / 256 % 256)] := by
                  rw [← byte30b hWl, ← byte31]
                  simp [byteCells, bytes3]
                have e2 : (out ++ (bytes3 W).take (3 - 1)).length = out.length + 2 := by simp [bytes3]
                rw [e, e2]
                exact hown'
              have HN := Lib.hid (HB.out.next (m := 3) HDE.out hl4.out (by decide) HO.out)
              clear hown' hgrow
              obtain ⟨av7, cv7, rfl⟩ := own_form HO.out.own
              go_wp2_with fail
              go_roundg (s.length - (j + 4))
              case measure => omega
              case rel => exact ⟨j + 4, _, _, by omega, by omega, veq (by first | rfl | exact wrap_nn (by omega) (by omega)), rfl, HN.out⟩
            · have hV : ¬ W * 2 ^ (8 * (3 - 1)) % 16777216 = 0 := by have := HWM.out; simp only [Nat.reduceMul, Nat.reduceSub, Nat.reducePow] at this ⊢; omega
              have hrz : ¬ (r : Int) = 0 := by omega
              have hrb : ((r : Int) == 0) = false := by simpa using hr0
              clear hq hr HWM hr0
              have HDE : Hid (dec64 (s.drop j) = none) := by
                show _ = _
                rw [HD4.out, if_neg (show ¬ W * 2 ^ (8 * (3 - 1)) % 16777216 = 0 from hV)]
              clear HD4 hV
              go_wp2_with fail
              refine bodyPost_ret (results_tmp3 rfl _ _ _) rfl ?_
              refine ⟨?_, HB.out.below⟩
              rw [HB.out.eq, HDE.out]
              exact ⟨_, rfl⟩
          · skip
            have hV : W * 2 ^ (8 * (4 - 1)) % 16777216 = 0 := by omega
            have HDE : Hid (dec64 (s.drop j) = (dec64 l).map ((bytes3 W).take (4 - 1) ++ ·)) := by
              show _ = _
              rw [HD4.out, if_pos (show W * 2 ^ (8 * (4 - 1)) % 16777216 = 0 from hV)]
              cases dec64 l <;> rfl
            clear HD4 hV
            have hz5 : w.heap.size ≤ wr.heap.size := HB.out.below.size
            have B5 : Hid (Below wr.heap.size wr (wr.alloc (.cells #[.int .u8 ((W : Int) / 65536), .int .u8 ((W : Int) / 256 % 256), .int .u8 ((W : Int) % 256)] 5))) := below_alloc (Below.refl _ _) (Nat.le_refl _) _
            have O5 : Hid ((wr.alloc (.cells #[.int .u8 ((W : Int) / 65536), .int .u8 ((W : Int) / 256 % 256), .int .u8 ((W : Int) % 256)] 5)).ownsRow w.heap.size 5 1 (.slice av out.length cv) out.length (byteCells out)) := own_later HB.out.own B5.out
            have H5 : Hid ((wr.alloc (.cells #[.int .u8 ((W : Int) / 65536), .int .u8 ((W : Int) / 256 % 256), .int .u8 ((W : Int) % 256)] 5)).heap[wr.heap.size]? = some (.cells #[.int .u8 ((W : Int) / 65536), .int .u8 ((W : Int) / 256 % 256), .int .u8 ((W : Int) % 256)] 5 (0, 0))) := heap_alloc_new _ _
            have hz6 := B5.out.size
            have hol := HB.out.len
            go_wp2_with (at_builtin; skip; refine wpList_append_own_wide _ rfl _ _ 75 rfl w.heap.size 5 i0 (.int .u8 0) 1 1 Tryd.underlying75 hi hz0 hz1 hz2 rfl (by decide) _ _ _ rfl O5.out ⟨wr.heap.size, 0, none⟩ 3 3 [.int .u8 ((W : Int) / 65536), .int .u8 ((W : Int) / 256 % 256), .int .u8 ((W : Int) % 256)] rfl rfl ?c1 ?c2 ?c3 ?c4 ?c5 ?_)
            case c2 => simp [Value.oneCell']
            case c3 => simp only [maxLen]; omega
            case c4 => omega
            case c5 => first | omega | (simp; omega)
            intro v' w7 hown' hgrow _
            have B7 : Below w.heap.size wr w7 := ((Below.refl _ _).trans (B5.out.mono hz5)).grown hgrow (Nat.le_trans hz5 B5.out.size) (fun k hk => (HB.out.own.lt k hk).1)
            have HO : Hid (Ub64In w wr w7 out (out ++ (bytes3 W).take (4 - 1)) W (4 - 1) v') := by
              refine ⟨rfl, ?_, B7⟩
              have e : byteCells (out ++ (bytes3 W).take (4 - 1)) = byteCells out ++ [.int .u8 ((W : Int) / 65536), .int .u8 ((W : Int) / 256 % 256), .int .u8 ((W : Int) % 256)] := by
                rw [← byte30b hWl, ← byte31, ← byte32]
                simp [byteCells, bytes3]
              have e2 : (out ++ (bytes3 W).take (4 - 1)).length = out.length + 3 := by simp [bytes3]
              rw [e, e2]
              exact hown'
            have HN := Lib.hid (HB.out.next (m := 4) HDE.out hl4.out (by decide) HO.out)
            clear hown' hgrow
            obtain ⟨av7, cv7, rfl⟩ := own_form HO.out.own
            go_wp2_with fail
            go_roundg (s.length - (j + 4))
            case measure => omega
            case rel => exact ⟨j + 4, _, _, by omega, by omega, veq (by first | rfl | exact wrap_nn (by omega) (by omega)), rfl, HN.out⟩
    · have hltz : ¬ (j : Int) < (s.length : Int) := by omega
      have HEQ : Hid (dec64 s = some out) := by show _ = _; rw [HB.out.eq, List.drop_eq_nil_of_le (by omega)]; simp [dec64]
      have HBB := Lib.hid HB.out.below
      have hcv := own_text HB.out.own
      go_wp2_with fail
      refine bodyPost_ret (results_tmp3 rfl _ _ _) rfl ?_
      refine ⟨?_, HBB.out⟩
      rw [HEQ.out]
      rfl
end Go.Proofs.YtgklbmcnpnmkkaaDoor
