/-
  storehouseref19.ReadNumber: it is readNum.
-/
import Derived.Test.YtgklbmcnpnmkkaaDoorLsRNum
namespace Go.Proofs.YtgklbmcnpnmkkaaDoor
open Go.RowKit Go.Lib Go.PlainAid

abbrev hexTab : ByteArray := ⟨#[48, 49, 50, 51, 52, 53, 54, 55, 56, 57, 97, 98, 99, 100, 101, 102]⟩
theorem hexTab_at : ∀ j : Nat, (h : j < 16) → (hexTab[j]'h) = hexD j := by
  intro j h
  have : j = 0 ∨ j = 1 ∨ j = 2 ∨ j = 3 ∨ j = 4 ∨ j = 5 ∨ j = 6 ∨ j = 7 ∨ j = 8 ∨ j = 9 ∨ j = 10 ∨ j = 11 ∨ j = 12 ∨ j = 13 ∨ j = 14 ∨ j = 15 := by omega
  rcases this with rfl | rfl | rfl | rfl | rfl | rfl | rfl | rfl | rfl | rfl | rfl | rfl | rfl | rfl | rfl | rfl <;> rfl
/-- what is found so far: below 0, or the sixteenth -/
def FoundIn (c : UInt8) (k : Nat) (d : Int) : Prop := (d = -1 ∧ ∀ j, j < k → hexD j ≠ c) ∨ (∃ j : Nat, j < k ∧ d = j ∧ hexD j = c)
theorem FoundIn.step {c : UInt8} {k : Nat} {d : Int} (h : FoundIn c k d) (hn : hexD k ≠ c) : FoundIn c (k + 1) d := by
  rcases h with ⟨h1, h2⟩ | ⟨j, h1, h2, h3⟩
  · refine .inl ⟨h1, fun j hj => ?_⟩
    by_cases h : j = k
    · subst h; exact hn
    · exact h2 j (by omega)
  · exact .inr ⟨j, by omega, h2, h3⟩
theorem FoundIn.hit {c : UInt8} {k : Nat} (hn : hexD k = c) : FoundIn c (k + 1) (k : Int) := .inr ⟨k, by omega, rfl, hn⟩
theorem hexLow_hexD {c : UInt8} (h : hexLow c = true) : ∃ j : Nat, j < 16 ∧ hexD j = c := by
  have h' := of_decide_eq_true h
  have hl := hxd_lt h
  refine ⟨(hxd c).toNat, by omega, ?_⟩
  have hd := hexD_low (hxd c).toNat (by omega)
  exact hxd_inj hd.1 h (by rw [hd.2]; omega)
theorem FoundIn.done {c : UInt8} {d : Int} (h : FoundIn c 16 d) : (d = -1 ∧ hexLow c = false) ∨ (0 ≤ d ∧ d < 16 ∧ hexLow c = true ∧ d = hxd c) := by
  rcases h with ⟨h1, h2⟩ | ⟨j, h1, h2, h3⟩
  · left
    refine ⟨h1, ?_⟩
    cases hc : hexLow c with
    | false => rfl
    | true =>
      obtain ⟨j, hj, e⟩ := hexLow_hexD hc
      exact absurd e (h2 j hj)
  · right
    have hd := hexD_low j h1
    subst h3
    exact ⟨by omega, by omega, hd.1, by rw [hd.2, h2]⟩

theorem readNum_bad {s : List UInt8} {c : UInt8} (hm : c ∈ s) (h : hexLow c = false) : readNum s = none := by
  unfold readNum
  rw [if_neg]
  rintro ⟨_, h2, _⟩
  rw [List.all_eq_true] at h2
  rw [h2 c hm] at h
  cases h
theorem hexVal_app (a b : List UInt8) : hexVal (a ++ b) = hexVal a * 16 ^ b.length + hexVal b := by
  induction b generalizing a with
  | nil => simp [hexVal]
  | cons c b ih =>
    have e : a ++ c :: b = (a ++ [c]) ++ b := by simp
    rw [e, ih, hexVal_snoc, hexVal_cons, List.length_cons, Int.pow_succ, Int.add_mul, Int.add_assoc, Int.mul_assoc, Int.mul_comm 16]
theorem readNum_big {s : List UInt8} {i : Nat} (h : 9007199254740991 < hexVal (s.take i)) : readNum s = none := by
  unfold readNum
  rw [if_neg]
  rintro ⟨_, _, h3⟩
  have e : hexVal s = hexVal (s.take i) * 16 ^ (s.drop i).length + hexVal (s.drop i) := by
    rw [← hexVal_app, List.take_append_drop]
  have hp : (1 : Int) ≤ 16 ^ (s.drop i).length := Int.pow_pos (by decide)
  have h1 : hexVal (s.take i) * 1 ≤ hexVal (s.take i) * 16 ^ (s.drop i).length := Int.mul_le_mul_of_nonneg_left hp (by omega)
  have h2 := hexVal_nonneg (s.drop i)
  omega

set_option maxHeartbeats 2000000 in
set_option maxRecDepth 100000 in
theorem rReadNumber_any (s : List UInt8) (w : World) (hl : s.length ≤ 140737488355328) : Calls Tryd.prog 36 #[.string ⟨s.toArray⟩] w fun e w' => e = .returned (.tuple #[.int .i64 ((readNum s).getD 0), .bool (readNum s).isSome]) ∧ ∃ q, w' = w.drewN q := by
  by_cases h16 : s.length = 16
  · obtain ⟨R, hR⟩ : ∃ R, Hid (readNum s = R) := ⟨_, rfl⟩
    rw [hR.out]
    have x1 : ((s.length : Int) != 16) = false := by rw [bne_eq_false_iff_eq]; omega
    have hsz : (⟨s.toArray⟩ : ByteArray).size = 16 := by simp [ByteArray.size, h16]
    go_enter Tryd.func36, Tryd.ntmps36
    go_wp2
    go_loopg [4, 5] 16 (fun gg s4 s5 wr => ∃ (i : Nat), i ≤ 16 ∧ 16 - i ≤ gg ∧ s4 = .int .i64 (hexVal (s.take i)) ∧ s5 = .int .i64 i ∧ Hid ((∀ c ∈ s.take i, hexLow c = true) ∧ hexVal (s.take i) ≤ 144115188075855871) ∧ ∃ q, wr = w.drewN q)
    case atStart => exact ⟨0, by omega, by omega, by simp [hexVal], rfl, ⟨fun c hc => by simp at hc, by simp [hexVal]⟩, 0, rfl⟩
    case round =>
      obtain ⟨i, hi, hgg, rfl, rfl, HS, q, rfl⟩ := hrel
      by_cases hlt : i < 16
      · have hlz : (i : Int) < 16 := by omega
        go_wp2
        go_loopg [6, 7] 16 (fun gg s6 s7 wr => ∃ (k : Nat) (d : Int), k ≤ 16 ∧ 16 - k ≤ gg ∧ s6 = .int .i64 d ∧ s7 = .int .i64 k ∧ Hid (FoundIn (s[i]'(by omega)) k d) ∧ ∃ q, wr = w.drewN q)
        case atStart => exact ⟨0, -1, by omega, by omega, rfl, rfl, .inl ⟨rfl, fun j hj => by omega⟩, q, rfl⟩
        case round =>
          obtain ⟨k, d, hk, hgk, rfl, rfl, HF, q', rfl⟩ := hrel
          by_cases hkt : k < 16
          · have hkz : (k : Int) < 16 := by omega
            have hg1 : (⟨#[48, 49, 50, 51, 52, 53, 54, 55, 56, 57, 97, 98, 99, 100, 101, 102]⟩ : ByteArray)[k]'(by exact hkt) = hexD k := hexTab_at k hkt
            have hg2 : (⟨s.toArray⟩ : ByteArray)[i]'(by rw [hsz]; exact hlt) = s[i] := by simp [ByteArray.getElem_eq_getElem_data]
            have hi' : (i : Int) < (s.length : Int) := by omega
            by_cases he : hexD k = s[i]
            · have hx : ((((⟨#[48, 49, 50, 51, 52, 53, 54, 55, 56, 57, 97, 98, 99, 100, 101, 102]⟩ : ByteArray)[k]'(by exact hkt)).toNat : Int) == (((⟨s.toArray⟩ : ByteArray)[i]'(by rw [hsz]; exact hlt)).toNat : Int)) = true := by rw [hg1, hg2, he]; simp
              have HF' := Lib.hid (FoundIn.hit he)
              clear HF hg1 hg2 he
              go_wp2
              go_region
              go_wp2
              go_roundg (16 - (k + 1))
              case measure => omega
              case rel => exact ⟨k + 1, k, by omega, Nat.le_refl _, rfl, by go_num, HF'.out, _, rfl⟩
            · have hx : ((((⟨#[48, 49, 50, 51, 52, 53, 54, 55, 56, 57, 97, 98, 99, 100, 101, 102]⟩ : ByteArray)[k]'(by exact hkt)).toNat : Int) == (((⟨s.toArray⟩ : ByteArray)[i]'(by rw [hsz]; exact hlt)).toNat : Int)) = false := by
                rw [hg1, hg2, beq_eq_false_iff_ne]
                intro e
                exact he (UInt8.toNat_inj.1 (by omega))
              have HF' := Lib.hid (HF.out.step he)
              clear HF hg1 hg2 he
              go_wp2
              go_region
              go_wp2
              go_roundg (16 - (k + 1))
              case measure => omega
              case rel => exact ⟨k + 1, d, by omega, Nat.le_refl _, rfl, by go_num, HF'.out, _, rfl⟩
          · obtain rfl : k = 16 := by omega
            have hmem : s[i]'(by omega) ∈ s := List.getElem_mem _
            rcases HF.out.done with ⟨rfl, hbad⟩ | ⟨hd0, hd16, hlow, hdv⟩
            · have hRn := readNum_bad hmem hbad
              rw [hR.out] at hRn
              subst hRn
              clear HF
              go_wp2
              go_ret2
              exact ⟨rfl, _, rfl⟩
            · by_cases hbig : 9007199254740991 < hexVal (s.take i)
              · have hRn := readNum_big hbig
                rw [hR.out] at hRn
                subst hRn
                have x2 : ¬ d < 0 := by omega
                clear HF
                generalize hexVal (s.take i) = V at hbig
                go_wp2
                go_ret2
                exact ⟨rfl, _, rfl⟩
              · have x2 : ¬ d < 0 := by omega
                have hV0 := hexVal_nonneg (s.take i)
                have htk : s.take (i + 1) = s.take i ++ [s[i]'(by omega)] := by rw [List.take_append_getElem]
                have hnx : Hid (hexVal (s.take (i + 1)) = 16 * hexVal (s.take i) + d ∧ (∀ c ∈ s.take (i + 1), hexLow c = true)) := by
                  rw [htk]
                  refine ⟨by rw [hexVal_snoc, hdv]; omega, fun c hc => ?_⟩
                  rcases List.mem_append.1 hc with hc | hc
                  · exact HS.out.1 c hc
                  · simp at hc; subst hc; exact hlow
                clear HF htk hdv hlow hmem HS
                obtain ⟨V, hV⟩ : ∃ V, hexVal (s.take i) = V := ⟨_, rfl⟩
                rw [hV] at hbig hV0 hnx ⊢
                have f1 : IntKind.i64.wrap (16 * V) = 16 * V := by go_arith
                have f2 : IntKind.i64.wrap (16 * V + d) = 16 * V + d := by go_arith
                have x3 : ¬ 9007199254740991 < V := hbig
                go_wp2
                go_roundg (16 - (i + 1))
                case measure => omega
                case rel =>
                  refine ⟨i + 1, by omega, Nat.le_refl _, by rw [hnx.out.1], by go_num, ⟨hnx.out.2, by rw [hnx.out.1]; omega⟩, _, rfl⟩
      · obtain rfl : i = 16 := by omega
        have ht : s.take 16 = s := by rw [List.take_of_length_le (by omega)]
        rw [ht] at HS ⊢
        by_cases hbig : 9007199254740991 < hexVal s
        · have hRn : readNum s = none := readNum_big (i := 16) (by rw [ht]; exact hbig)
          rw [hR.out] at hRn
          subst hRn
          clear HS hR
          generalize hexVal s = V at hbig
          go_wp2
          go_ret2
          exact ⟨rfl, _, rfl⟩
        · have hRn : readNum s = some (hexVal s) := by
            unfold readNum
            rw [if_pos ⟨h16, List.all_eq_true.2 HS.out.1, by omega⟩]
          rw [hR.out] at hRn
          subst hRn
          clear HS hR
          obtain ⟨V, hV⟩ : ∃ V, hexVal s = V := ⟨_, rfl⟩
          rw [hV] at hbig ⊢
          go_wp2
          go_ret2
          refine ⟨?_, _, rfl⟩
          first | rfl | (simp only [ht, hV]; done) | (simp only [ht, hV]; rfl) | trace_state
  · have hRn : readNum s = none := by unfold readNum; rw [if_neg (fun h => h16 h.1)]
    rw [hRn]
    have x1 : ((s.length : Int) != 16) = true := by rw [bne_iff_ne]; omega
    have x1' : ((s.length : Int) == 16) = false := by rw [beq_eq_false_iff_ne]; omega
    clear hRn h16
    go_enter Tryd.func36, Tryd.ntmps36
    go_wp2
    go_ret2
    exact ⟨rfl, 0, rfl⟩

end Go.Proofs.YtgklbmcnpnmkkaaDoor
