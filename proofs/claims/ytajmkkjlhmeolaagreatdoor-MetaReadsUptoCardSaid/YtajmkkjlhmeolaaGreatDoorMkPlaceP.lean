/-
  storehouseref19.ReadKey: what it is (plain): it tells the same as the program's.
-/
import Derived.Test.YtajmkkjlhmeolaaGreatDoorSm13
import Derived.Test.YtajmkkjlhmeolaaGreatDoorSm18
namespace Go.Proofs.YtajmkkjlhmeolaaGreatDoor
open Go.RowKit Go.Lib

/-- a place that has a key -/
inductive PlaceR : PlaceV → Prop
  | b (b : List UInt8) : bucketB b = true → PlaceR ⟨98, b, [], 0, 0⟩
  | v (b k : List UInt8) (n : Int) : VerOK b k n → PlaceR ⟨118, b, k, n, 0⟩
  | u (n : Int) : 1 ≤ n ∧ n ≤ 9007199254740991 → PlaceR ⟨117, [], [], n, 0⟩
  | d (n : Int) : 1 ≤ n ∧ n ≤ 9007199254740991 → PlaceR ⟨100, [], [], n, 0⟩
  | p (n m : Int) : (1 ≤ n ∧ n ≤ 9007199254740991) → (1 ≤ m ∧ m ≤ 20) → PlaceR ⟨112, [], [], n, m⟩
  | n : PlaceR ⟨110, [], [], 0, 0⟩

theorem bucketKey_ok {b : List UInt8} (h : bucketKeyL b ≠ []) : bucketB b = true := by
  unfold bucketKeyL at h
  split at h
  · assumption
  · exact absurd rfl h
theorem keyL_ok {hd : List UInt8} {n : Int} (h : keyL hd n ≠ []) : 1 ≤ n ∧ n ≤ 9007199254740991 := by
  unfold keyL at h
  split at h
  · assumption
  · exact absurd rfl h
theorem partKey_ok {n m : Int} (h : partKeyL n m ≠ []) : (1 ≤ n ∧ n ≤ 9007199254740991) ∧ 1 ≤ m ∧ m ≤ 20 := by
  unfold partKeyL at h
  split at h
  · assumption
  · exact absurd rfl h
theorem keyL_eq {hd : List UInt8} {n : Int} (h : 1 ≤ n ∧ n ≤ 9007199254740991) : keyL hd n = hd ++ numText n := by unfold keyL; rw [if_pos h]
theorem partKey_eq {n m : Int} (h : 1 ≤ n ∧ n ≤ 9007199254740991) (hm : 1 ≤ m ∧ m ≤ 20) : partKeyL n m = [112, 47] ++ numText n ++ [47] ++ itoa (m / 10) ++ itoa (m % 10) := by unfold partKeyL; rw [if_pos ⟨h, hm⟩]
theorem numText_slash {n : Int} (h : 1 ≤ n ∧ n ≤ 9007199254740991) : 47 ∉ numText n := fun hm => slash_hex ((numText_in ⟨by omega, h.2⟩).2.1 47 hm) rfl

theorem placeOf_some {s : List UInt8} {p : PlaceV} (h : placeOf s = some p) : PlaceR p ∧ s = placeKeyL p := by
  unfold placeOf at h
  split at h
  · rename_i k hk
    split at h
    · rename_i q hq
      split at h
      · rename_i hh
        obtain rfl := Option.some.inj h
        refine ⟨?_, hh.2.symm⟩
        have h1 := hh.1
        unfold candOf at hq
        split at hq
        · obtain rfl := Option.some.inj hq
          exact .b _ (bucketKey_ok h1)
        · split at hq
          · split at hq
            · cases hq
            · obtain rfl := Option.some.inj hq
              exact .v _ _ _ (version_ok h1)
          · split at hq
            · obtain rfl := Option.some.inj hq
              have := partKey_ok h1
              exact .p _ _ this.1 this.2
            · split at hq
              · obtain rfl := Option.some.inj hq
                exact .u _ (keyL_ok h1)
              · split at hq
                · obtain rfl := Option.some.inj hq
                  exact .d _ (keyL_ok h1)
                · split at hq
                  · obtain rfl := Option.some.inj hq
                    exact .n
                  · cases hq
      · cases h
    · cases h
  · cases h

theorem itoa2 {m : Int} (hm : 1 ≤ m ∧ m ≤ 20) : ∃ a b : UInt8, itoa (m / 10) = [a] ∧ itoa (m % 10) = [b] ∧ a ≠ 47 ∧ 10 * ((a.toNat : Int) - 48) + ((b.toNat : Int) - 48) = m ∧ atoiVal [a, b] = m := by
  obtain ⟨k, rfl⟩ := Int.eq_ofNat_of_zero_le (show 0 ≤ m by omega)
  have e1 : (k : Int) / 10 = ((k / 10 : Nat) : Int) := by omega
  have e2 : (k : Int) % 10 = ((k % 10 : Nat) : Int) := by omega
  rw [e1, e2, itoa1 (k / 10) (by omega), itoa1 (k % 10) (by omega)]
  refine ⟨_, _, rfl, rfl, ?_⟩
  have : k = 1 ∨ k = 2 ∨ k = 3 ∨ k = 4 ∨ k = 5 ∨ k = 6 ∨ k = 7 ∨ k = 8 ∨ k = 9 ∨ k = 10 ∨ k = 11 ∨ k = 12 ∨ k = 13 ∨ k = 14 ∨ k = 15 ∨ k = 16 ∨ k = 17 ∨ k = 18 ∨ k = 19 ∨ k = 20 := by omega
  rcases this with rfl | rfl | rfl | rfl | rfl | rfl | rfl | rfl | rfl | rfl | rfl | rfl | rfl | rfl | rfl | rfl | rfl | rfl | rfl | rfl <;> exact ⟨by decide, by rfl, by rfl⟩

theorem place_nonempty {p : PlaceV} (h : PlaceR p) : placeKeyL p ≠ [] := by
  cases h with
  | b b hb => show bucketKeyL b ≠ []; unfold bucketKeyL; rw [if_pos hb]; simp
  | v b k n hv => show versionKeyL b k n ≠ []; rw [version_eq hv]; simp
  | u n hn => show keyL [117, 47] n ≠ []; rw [keyL_eq hn]; simp
  | d n hn => show keyL [100, 47] n ≠ []; rw [keyL_eq hn]; simp
  | p n m hn hm => show partKeyL n m ≠ []; rw [partKey_eq hn hm]; simp
  | n => simp [placeKeyL]

theorem placeOf_head {k : UInt8} {rest : List UInt8} {p : PlaceV} (hk : k ≠ 47) (hc : candOf k rest = some p) (hp : PlaceR p) (hs : placeKeyL p = k :: 47 :: rest) : placeOf (placeKeyL p) = some p := by
  have c1 : cut1 (placeKeyL p) 47 = ([k], rest, true) := by rw [hs]; exact cut1_at (a := [k]) (by simpa using hk.symm)
  unfold placeOf
  rw [c1]
  simp only
  rw [hc]
  simp only
  rw [if_pos ⟨place_nonempty hp, trivial⟩]

theorem placeOf_right {p : PlaceV} (h : PlaceR p) : placeOf (placeKeyL p) = some p := by
  have h0 := h
  cases h with
  | b b hb =>
    refine placeOf_head (k := 98) (rest := b) (by decide) rfl h0 ?_
    show bucketKeyL b = _
    unfold bucketKeyL; rw [if_pos hb]; rfl
  | v b k n hv => exact version_place hv
  | u n hn =>
    refine placeOf_head (k := 117) (rest := numText n) (by decide) ?_ h0 ?_
    · show some _ = _
      rw [readNum_text ⟨by omega, hn.2⟩]
      rfl
    · show keyL [117, 47] n = _
      rw [keyL_eq hn]; rfl
  | d n hn =>
    refine placeOf_head (k := 100) (rest := numText n) (by decide) ?_ h0 ?_
    · show some _ = _
      rw [readNum_text ⟨by omega, hn.2⟩]
      rfl
    · show keyL [100, 47] n = _
      rw [keyL_eq hn]; rfl
  | p n m hn hm =>
    obtain ⟨a, b, ha, hb, ha47, hv, hat⟩ := itoa2 hm
    refine placeOf_head (k := 112) (rest := numText n ++ 47 :: [a, b]) (by decide) ?_ h0 ?_
    · show some _ = _
      rw [cut1_at (numText_slash hn)]
      simp only
      rw [readNum_text ⟨by omega, hn.2⟩, hat]
      rfl
    · show partKeyL n m = _
      rw [partKey_eq hn hm, ha, hb]
      simp
  | n =>
    have c1 : cut1 [110] 47 = ([110], [], false) := cut1_no (by decide)
    show placeOf [110] = _
    unfold placeOf
    rw [c1]
    rfl

/-- the place that the reference tries behind a beginning -/
def rCand (k : UInt8) (rest : List UInt8) : Option PlaceV :=
  if k.toNat = 98 then some ⟨98, rest, [], 0, 0⟩
  else if k.toNat = 117 then some ⟨117, [], [], (readNum rest).getD 0, 0⟩
  else if k.toNat = 100 then some ⟨100, [], [], (readNum rest).getD 0, 0⟩
  else if k.toNat = 112 then
    if rest.length = 19 then some ⟨112, [], [], (readNum (rest.take 16)).getD 0, 10 * (((rest.getD 17 0).toNat : Int) - 48) + (((rest.getD 18 0).toNat : Int) - 48)⟩ else none
  else if k.toNat = 118 then
    if (cut1 rest 47).1.length + 17 < rest.length ∧ rest[rest.length - 17]? = some 47 then
      some ⟨118, rest.take (cut1 rest 47).1.length, (rest.take (rest.length - 17)).drop ((cut1 rest 47).1.length + 1), (readNum (rest.drop (rest.length - 16))).getD 0, 0⟩
    else none
  else none
def rTry (s : List UInt8) (o : Option PlaceV) : Option PlaceV := match o with
  | some p => if placeKeyL p ≠ [] ∧ placeKeyL p = s then some p else none
  | none => none
def rPlaceOf (s : List UInt8) : Option PlaceV :=
  if s = [110] then some ⟨110, [], [], 0, 0⟩ else match s with
  | k :: c :: rest => if c = 47 then rTry s (rCand k rest) else none
  | _ => none

theorem rPlaceOf_some {s : List UInt8} {p : PlaceV} (h : rPlaceOf s = some p) : PlaceR p ∧ s = placeKeyL p := by
  unfold rPlaceOf at h
  split at h
  · rename_i hs
    obtain rfl := Option.some.inj h
    exact ⟨.n, hs⟩
  · split at h
    · rename_i k c rest
      split at h
      · unfold rTry at h
        split at h
        · rename_i q hq
          split at h
          · rename_i hh
            obtain rfl := Option.some.inj h
            refine ⟨?_, hh.2.symm⟩
            have h1 := hh.1
            unfold rCand at hq
            split at hq
            · obtain rfl := Option.some.inj hq
              exact .b _ (bucketKey_ok h1)
            · split at hq
              · obtain rfl := Option.some.inj hq
                exact .u _ (keyL_ok h1)
              · split at hq
                · obtain rfl := Option.some.inj hq
                  exact .d _ (keyL_ok h1)
                · split at hq
                  · split at hq
                    · obtain rfl := Option.some.inj hq
                      have := partKey_ok h1
                      exact .p _ _ this.1 this.2
                    · cases hq
                  · split at hq
                    · split at hq
                      · obtain rfl := Option.some.inj hq
                        exact .v _ _ _ (version_ok h1)
                      · cases hq
                    · cases hq
          · cases h
        · cases h
      · cases h
    · cases h

theorem rPlaceOf_head {k : UInt8} {rest : List UInt8} {p : PlaceV} (hc : rCand k rest = some p) (hp : PlaceR p) (hs : placeKeyL p = k :: 47 :: rest) : rPlaceOf (placeKeyL p) = some p := by
  have hn := place_nonempty hp
  unfold rPlaceOf
  rw [if_neg (by rw [hs]; simp), hs]
  simp only [if_true]
  rw [hc]
  show (if _ then _ else _) = _
  rw [if_pos ⟨hn, hs⟩]

theorem rPlaceOf_right {p : PlaceV} (h : PlaceR p) : rPlaceOf (placeKeyL p) = some p := by
  have h0 := h
  cases h with
  | b b hb =>
    refine rPlaceOf_head (k := 98) (rest := b) rfl h0 ?_
    show bucketKeyL b = _
    unfold bucketKeyL; rw [if_pos hb]; rfl
  | v b k n hv =>
    have hl := (numText_in (n := n) ⟨by have := hv.n; omega, hv.n.2⟩).1
    have hr : readNum (numText n) = some n := readNum_text ⟨by have := hv.n; omega, hv.n.2⟩
    refine rPlaceOf_head (k := 118) (rest := b ++ 47 :: (k ++ 47 :: numText n)) ?_ h0 ?_
    · have c2 : cut1 (b ++ 47 :: (k ++ 47 :: numText n)) 47 = (b, k ++ 47 :: numText n, true) := cut1_at (slash_bucket hv.b)
      have hlen : (b ++ 47 :: (k ++ 47 :: numText n)).length = b.length + 1 + k.length + 17 := by simp [hl]; omega
      have e1 : (b ++ 47 :: (k ++ 47 :: numText n)) = (b ++ 47 :: k) ++ 47 :: numText n := by simp
      have e2 : (b ++ 47 :: k).length = b.length + 1 + k.length := by simp; omega
      have t0 : (b ++ 47 :: (k ++ 47 :: numText n))[b.length + 1 + k.length]? = some 47 := by
        rw [e1, List.getElem?_append_right (by omega), e2]; simp
      have t1 : (b ++ 47 :: (k ++ 47 :: numText n)).take (b.length + 1 + k.length) = b ++ 47 :: k := by
        rw [e1, ← e2]; exact List.take_left ..
      have t2 : (b ++ 47 :: (k ++ 47 :: numText n)).drop (b.length + 1 + k.length + 1) = numText n := by
        rw [e1, ← e2, ← List.drop_drop, List.drop_left]; rfl
      show (if (cut1 _ 47).1.length + 17 < _ ∧ _ then some (PlaceV.mk 118 _ _ _ 0) else none) = _
      rw [c2]
      simp only
      rw [hlen, show b.length + 1 + k.length + 17 - 17 = b.length + 1 + k.length by omega, show b.length + 1 + k.length + 17 - 16 = b.length + 1 + k.length + 1 by omega, t0, t1, t2, hr]
      rw [if_pos ⟨by have := hv.k; omega, rfl⟩]
      simp
    · show versionKeyL b k n = _
      rw [version_eq hv]; simp
  | u n hn =>
    refine rPlaceOf_head (k := 117) (rest := numText n) ?_ h0 ?_
    · show some _ = _
      rw [readNum_text ⟨by omega, hn.2⟩]
      rfl
    · show keyL [117, 47] n = _
      rw [keyL_eq hn]; rfl
  | d n hn =>
    refine rPlaceOf_head (k := 100) (rest := numText n) ?_ h0 ?_
    · show some _ = _
      rw [readNum_text ⟨by omega, hn.2⟩]
      rfl
    · show keyL [100, 47] n = _
      rw [keyL_eq hn]; rfl
  | p n m hn hm =>
    obtain ⟨a, b, ha, hb, ha47, hv, hat⟩ := itoa2 hm
    have hl := (numText_in (n := n) ⟨by omega, hn.2⟩).1
    have hr : readNum (numText n) = some n := readNum_text ⟨by omega, hn.2⟩
    refine rPlaceOf_head (k := 112) (rest := numText n ++ [47, a, b]) ?_ h0 ?_
    · have t1 : (numText n ++ [47, a, b]).take 16 = numText n := by rw [← hl]; exact List.take_left ..
      have g1 : (numText n ++ [47, a, b]).getD 17 0 = a := by
        rw [List.getD_eq_getElem?_getD, List.getElem?_append_right (by omega), hl]; rfl
      have g2 : (numText n ++ [47, a, b]).getD 18 0 = b := by
        rw [List.getD_eq_getElem?_getD, List.getElem?_append_right (by omega), hl]; rfl
      show (if _ then some (PlaceV.mk 112 [] [] _ _) else none) = _
      rw [if_pos (by simp [hl]), t1, g1, g2, hr, hv]
      rfl
    · show partKeyL n m = _
      rw [partKey_eq hn hm, ha, hb]
      simp
  | n => rfl

theorem rPlaceOf_eq (s : List UInt8) : rPlaceOf s = placeOf s := by
  cases h : placeOf s with
  | some p =>
    obtain ⟨h1, rfl⟩ := placeOf_some h
    exact rPlaceOf_right h1
  | none =>
    cases h' : rPlaceOf s with
    | none => rfl
    | some p =>
      obtain ⟨h1, rfl⟩ := rPlaceOf_some h'
      rw [placeOf_right h1] at h
      cases h

end Go.Proofs.YtajmkkjlhmeolaaGreatDoor
