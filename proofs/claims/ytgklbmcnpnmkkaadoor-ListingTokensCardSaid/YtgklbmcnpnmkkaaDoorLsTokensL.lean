/-
  ListingTokens: the walk.
-/
import Derived.Test.YtgklbmcnpnmkkaaDoorLsRTok
import Derived.Test.YtgklbmcnpnmkkaaDoorLsEx
namespace Go.Proofs.YtgklbmcnpnmkkaaDoor
open Go.RowKit Go.Lib

theorem enc64_nil {l : List UInt8} (h : enc64 l = []) : l = [] := by
  have := enc64_len l
  rw [h] at this
  simp only [List.length_nil] at this
  exact List.eq_nil_of_length_eq_zero (by omega)
theorem tok_back (after : List UInt8) (n : Int) : tokenL after n = [] ∨ (tokenL after n ≠ [] ∧ readTok (tokenL after n) = some (after, n)) := by
  by_cases h : 0 ≤ n ∧ n ≤ 9007199254740991
  · have h1 := (numText_in h).1
    have hne : numText n ≠ [] := fun h0 => by rw [h0] at h1; cases h1
    have ht : tokenL after n = enc64 (numText n ++ after) := if_neg hne
    refine .inr ⟨fun h0 => ?_, ?_⟩
    · rw [ht] at h0
      have := congrArg List.length (enc64_nil h0)
      rw [List.length_append, h1] at this
      simp at this
    · rw [ht, readTok_long (dec_enc _) (by rw [List.length_append, h1]; omega), List.take_left' h1, readNum_text h, List.drop_left' h1]
      rfl
  · exact .inl (if_pos (numText_out h))
theorem tok_len (after : List UInt8) (n : Int) : (tokenL after n).length ≤ 4 * ((after.length + 18) / 3) := by
  unfold tokenL
  split
  · simp
  · rw [enc64_len, List.length_append]
    rcases numText_16 n with h | h
    · rw [h]; simp only [List.length_nil]; omega
    · rw [h]; omega

set_option maxHeartbeats 8000000 in
set_option maxRecDepth 100000 in
theorem tokens_walk {after s : List UInt8} {n : Int} {w : World} (hn : IntOK n) (hg : GlobL w) (ha : after.length ≤ 140737488351232) (hs : s.length ≤ 200000000000000) :
    Calls Tryd.prog 6 #[.string ⟨after.toArray⟩, .int .i64 n, .string ⟨s.toArray⟩] w (fun e w' => e = .returned (.bool true) ∧ Below w.heap.size w w') := by
  have HG := Lib.hid hg
  obtain ⟨T, hT⟩ : ∃ T, tokenL after n = T := ⟨_, rfl⟩
  have HTL : Hid (T.length ≤ 200000000000000) := by
    have := tok_len after n
    rw [hT] at this
    show _ ≤ _
    omega
  have HT1 : Hid (∀ W, Glob W → Calls Tryd.prog 13 #[.string ⟨after.toArray⟩, .int .i64 n] W (fun e w' => e = .returned (.string ⟨T.toArray⟩) ∧ Below W.heap.size W w')) := fun W hW => by
    have := token_any after n hn W hW (by omega)
    unfold TokOut at this
    rwa [hT] at this
  have HT2 : Hid (∀ W, Calls Tryd.prog 16 #[.string ⟨after.toArray⟩, .int .i64 n] W (fun e w' => e = .returned (.string ⟨T.toArray⟩) ∧ Below W.heap.size W w')) := fun W => by
    have := rToken_any after n hn W (by omega)
    unfold TokOut at this
    rwa [hT] at this
  have HBK := Lib.hid (tok_back after n)
  rw [hT] at HBK
  have HS := Lib.hid hs
  clear hg hT ha hs hn
  go_enter Tryd.func6, Tryd.ntmps6
  go_wp2_with fail
  refine (examples_walk w HG.out).mono ?_
  rintro e w1 ⟨rfl, hb1⟩
  have B1 := Lib.hid hb1
  clear hb1
  go_wp2_with fail
  refine (HT1.out _ (HG.out.later B1.out).g).mono ?_
  rintro e w2 ⟨rfl, hb2⟩
  have B2 := Lib.hid (B1.out.trans (hb2.mono B1.out.size))
  clear hb2 B1
  have HA : Hid (∀ W, Glob W → Calls Tryd.prog 14 #[.string ⟨s.toArray⟩] W (RdTokOut s W)) := fun W hW => readToken_any s W hW HS.out
  have HBR : Hid (∀ W, Calls Tryd.prog 15 #[.string ⟨s.toArray⟩] W (RRdTokOut s W)) := fun W => rReadToken_any s W HS.out
  have HCT : Hid (∀ W, Glob W → Calls Tryd.prog 14 #[.string ⟨T.toArray⟩] W (RdTokOut T W)) := fun W hW => readToken_any T W hW HTL.out
  rcases (by cases readTok s with | none => exact .inl rfl | some p => exact .inr ⟨p.1, p.2, rfl⟩ : readTok s = none ∨ ∃ t m, readTok s = some (t, m)) with hrs | ⟨t, m, hrs⟩
  · have HRS := Lib.hid hrs
    clear hrs
    go_wp2_with fail
    refine (HA.out _ (HG.out.later B2.out).g).mono ?_
    rintro e w3 ⟨he, hb3⟩
    rw [HRS.out] at he
    subst he
    have B3 := Lib.hid (B2.out.trans (hb3.mono B2.out.size))
    clear hb3
    go_wp2_with fail
    refine (HBR.out _).mono ?_
    rintro e w4 ⟨he, hb4⟩
    rw [HRS.out] at he
    subst he
    have B4 := Lib.hid (B3.out.trans (hb4.mono B3.out.size))
    clear hb4
    go_wp2_with fail
    refine (HCT.out _ (HG.out.later B4.out).g).mono ?_
    rintro e w5 ⟨he, hb5⟩
    have B5 := Lib.hid (B4.out.trans (hb5.mono B4.out.size))
    clear hb5
    rcases HBK.out with h0 | ⟨h0, h1⟩
    · subst h0
      have h2 : readTok [] = none := rfl
      rw [h2] at he
      subst he
      go_wp2_with fail
      refine (HT2.out _).mono ?_
      rintro e w6 ⟨rfl, hb6⟩
      have B6 := Lib.hid (B5.out.trans (hb6.mono B5.out.size))
      clear hb6
      go_wp2_with fail
      go_ret
      exact ⟨rfl, B6.out⟩
    · rw [h1] at he
      subst he
      obtain ⟨t0, tl, rfl⟩ : ∃ t0 tl, T = t0 :: tl := by cases T with
        | nil => exact absurd rfl h0
        | cons t0 tl => exact ⟨t0, tl, rfl⟩
      clear h0 h1
      go_wp2_with fail
      refine (HT2.out _).mono ?_
      rintro e w6 ⟨rfl, hb6⟩
      have B6 := Lib.hid (B5.out.trans (hb6.mono B5.out.size))
      clear hb6
      go_wp2_with fail
      go_ret
      exact ⟨rfl, B6.out⟩
  · have HRS := Lib.hid hrs
    clear hrs
    go_wp2_with fail
    refine (HA.out _ (HG.out.later B2.out).g).mono ?_
    rintro e w3 ⟨he, hb3⟩
    rw [HRS.out] at he
    subst he
    have B3 := Lib.hid (B2.out.trans (hb3.mono B2.out.size))
    clear hb3
    go_wp2_with fail
    refine (HBR.out _).mono ?_
    rintro e w4 ⟨he, hb4⟩
    rw [HRS.out] at he
    subst he
    have B4 := Lib.hid (B3.out.trans (hb4.mono B3.out.size))
    clear hb4
    go_wp2_with fail
    refine (HCT.out _ (HG.out.later B4.out).g).mono ?_
    rintro e w5 ⟨he, hb5⟩
    have B5 := Lib.hid (B4.out.trans (hb5.mono B4.out.size))
    clear hb5
    rcases HBK.out with h0 | ⟨h0, h1⟩
    · subst h0
      have h2 : readTok [] = none := rfl
      rw [h2] at he
      subst he
      go_wp2_with fail
      refine (HT2.out _).mono ?_
      rintro e w6 ⟨rfl, hb6⟩
      have B6 := Lib.hid (B5.out.trans (hb6.mono B5.out.size))
      clear hb6
      go_wp2_with fail
      go_ret
      exact ⟨rfl, B6.out⟩
    · rw [h1] at he
      subst he
      obtain ⟨t0, tl, rfl⟩ : ∃ t0 tl, T = t0 :: tl := by cases T with
        | nil => exact absurd rfl h0
        | cons t0 tl => exact ⟨t0, tl, rfl⟩
      clear h0 h1
      go_wp2_with fail
      refine (HT2.out _).mono ?_
      rintro e w6 ⟨rfl, hb6⟩
      have B6 := Lib.hid (B5.out.trans (hb6.mono B5.out.size))
      clear hb6
      go_wp2_with fail
      go_ret
      exact ⟨rfl, B6.out⟩
end Go.Proofs.YtgklbmcnpnmkkaaDoor
