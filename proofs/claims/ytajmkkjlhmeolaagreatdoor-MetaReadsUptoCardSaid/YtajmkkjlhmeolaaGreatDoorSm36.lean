/-
  SEVERAL SMALL TEXTS IN ONE.
-/
import Derived.Test.YtajmkkjlhmeolaaGreatDoorMfBk
import Derived.Test.YtajmkkjlhmeolaaGreatDoorMfRef
/-
  storehouseref19.fields: the walk (of texts that are not too long: the list's own memory).
-/
namespace Go.Proofs.YtajmkkjlhmeolaaGreatDoor
open Go.RowKit Go.Lib Go.PlainAid

def strRows (l : List (List UInt8)) : List (List Value) := l.map (fun t => [Value.string ⟨t.toArray⟩])
theorem strRows_len (l : List (List UInt8)) : (strRows l).length = l.length := by simp [strRows]
theorem strRows_one (l : List (List UInt8)) : ∀ r ∈ strRows l, r.length = 1 := by
  intro r hr
  simp only [strRows, List.mem_map] at hr
  obtain ⟨_, _, rfl⟩ := hr
  rfl
theorem info_string : ∃ i, Tryz.prog.info? 9 = some i ∧ i.zero = some (.string ⟨#[]⟩) ∧ i.size = 1 ∧ i.bytes = 16 :=
  info_parts (show (Tryz.prog.info? 9).map (fun i => (i.zero, i.size, i.bytes)) = some (some (.string ⟨#[]⟩), 1, 16) by kernel_rfl)

/-- where a text is cut first -/
theorem cutc_first (rest : List UInt8) (c : UInt8) : (cut1 rest c).1.length ≤ rest.length ∧ (cut1 rest c).1 = rest.take (cut1 rest c).1.length ∧ (∀ j, (h : j < rest.length) → j < (cut1 rest c).1.length → rest[j] ≠ c) ∧ (∀ h : (cut1 rest c).1.length < rest.length, rest[(cut1 rest c).1.length] = c ∧ cut1 rest c = (rest.take (cut1 rest c).1.length, rest.drop ((cut1 rest c).1.length + 1), true)) ∧ ((cut1 rest c).1.length = rest.length → (cut1 rest c).2.2 = false) := by
  unfold cut1
  rcases indexByte_cases rest c with ⟨h1, h2⟩ | ⟨i, hi, hlt, h3, h4⟩
  · rw [h1, if_neg (by omega)]
    exact ⟨Nat.le_refl _, by simp, fun j h1 _ h3 => h2 (by rw [← h3]; exact List.getElem_mem _), fun h => absurd h (Nat.lt_irrefl _), fun _ => rfl⟩
  · rw [hi, if_pos (by omega)]
    have hl : (rest.take i).length = i := by rw [List.length_take]; omega
    simp only [Int.toNat_natCast, hl]
    refine ⟨by omega, trivial, fun j h1 h2 e => h4 ?_, fun h => ⟨(List.getElem?_eq_some_iff.1 h3).2, trivial⟩, fun h => by omega⟩
    rw [← e, ← List.getElem_take (xs := rest) (j := i) (h := by omega)]
    exact List.getElem_mem _

theorem own_ge {w : World} {base : Nat} {e : TypeId} {sz : Nat} {v : Value} {n : Nat} {xs : List Value} (h : w.ownsRow base e sz v n xs) {x : Nat} (hx : v.ownBlock = some x) : base ≤ x := by
  rcases h.2 with ⟨rfl, _⟩ | ⟨y, _, _, rfl, hy, _⟩
  · cases hx
  · simp only [Value.ownBlock, Option.some.injEq] at hx; omega
/-- what fields leaves -/
def FieldsOut (o : Option (List (List UInt8))) (w : World) (e : Ending) (w' : World) : Prop :=
  ∃ v, e = .returned (.tuple #[v, .bool o.isSome]) ∧ SlAt w' 1 v (strRows (o.getD [])) ∧ Below w.heap.size w w'

set_option maxHeartbeats 4000000 in
set_option maxRecDepth 100000 in
theorem rFields_any (s : List UInt8) (hl : s.length ≤ 4000000000000) (w : World) : Calls Tryz.prog 67 #[.string ⟨s.toArray⟩] w (FieldsOut (fieldsL s) w) := by
  obtain ⟨res, hres⟩ : ∃ r, Hid (fieldsL s = r) := ⟨_, rfl⟩
  rw [hres.out]
  have hbs : (⟨s.toArray⟩ : ByteArray).size = s.length := by simp [ByteArray.size]
  have HBG : Hid (∀ j (h : j < s.length), (⟨s.toArray⟩ : ByteArray)[j]'(by rw [hbs]; exact h) = s[j]) := by intro j h; simp [ByteArray.getElem_eq_getElem_data]
  obtain ⟨i0, hi, hz0, hz1, hz2⟩ := info_string
  go_enter Tryz.func67, Tryz.ntmps67
  go_wp2
  go_loopg [4, 5] s.length (fun gg s4 s5 wr => ∃ (i : Nat) (acc : List (List UInt8)) (v : Value), i ≤ s.length ∧ s.length - i ≤ gg ∧ s4 = v ∧ s5 = .int .i64 i ∧ acc.length ≤ i ∧ Hid (res = (fieldsL (s.drop i)).map (acc ++ ·)) ∧ Hid (wr.ownsRow w.heap.size 9 1 v (strRows acc).length (strRows acc).flatten) ∧ Hid (Below w.heap.size w wr))
  case atStart => exact ⟨0, [], .slice none 0 0, by omega, by omega, rfl, rfl, by simp, by show _ = _; rw [← hres.out]; simp, World.ownsRow_nil _ _ _ _, Below.refl _ _⟩
  case round =>
    obtain ⟨i, acc, v, hin, hgg, rfl, rfl, hacc, HR, HO, HB⟩ := hrel
    clear hres
    by_cases hlt : i < s.length
    · have hltz : (i : Int) < (s.length : Int) := by omega
      have hcf := cutc_first (s.drop i) 58
      obtain ⟨L, hL⟩ : ∃ L, (cut1 (s.drop i) 58).1.length = L := ⟨_, rfl⟩
      rw [hL] at hcf
      obtain ⟨hc1, hc2, hc3, hc4, hc5⟩ := hcf
      rw [List.length_drop] at hc1
      have HC2 := Lib.hid hc2
      have HC3 := Lib.hid hc3
      have HC4 := Lib.hid hc4
      have HC5 := Lib.hid hc5
      clear hc2 hc3 hc4 hc5 hL
      go_wp2
      go_loopg [6] s.length (fun gg s6 wq => ∃ (j : Nat), i ≤ j ∧ j ≤ i + L ∧ s.length - j ≤ gg ∧ s6 = .int .i64 j ∧ wq = wr)
      case atStart => exact ⟨i, by omega, by omega, by omega, rfl, rfl⟩
      case round =>
        obtain ⟨j, hij, hjL, hgj, rfl, rfl⟩ := hrel
        by_cases hjl : j < i + L
        · have hjs : j < s.length := by omega
          have hjz : (j : Int) < (s.length : Int) := by omega
          have hx : ((((⟨s.toArray⟩ : ByteArray)[j]'(by rw [hbs]; exact hjs)).toNat : Int) != 58) = true := by
            rw [bne_iff_ne, HBG.out j hjs]
            intro h
            have h58 : s[j] = 58 := UInt8.toNat_inj.1 (by have : (58 : UInt8).toNat = 58 := rfl; omega)
            have := HC3.out (j - i) (by rw [List.length_drop]; omega) (by omega)
            rw [List.getElem_drop] at this
            apply this
            rw [← h58]
            congr 1
            omega
          go_wp2
          go_roundg (s.length - (j + 1))
          case measure => omega
          case rel => exact ⟨j + 1, by omega, by omega, Nat.le_refl _, by go_num, rfl⟩
        · obtain rfl : j = i + L := by omega
          obtain ⟨C, hC⟩ : ∃ C, i + L = C := ⟨_, rfl⟩
          have hCl : C ≤ s.length := by omega
          have hne : s.drop i ≠ [] := by intro h; have := congrArg List.length h; simp at this; omega
          have hN : rTake (s.drop i) = none → res = none := by intro h; rw [HR.out, fieldsL_step _ hne, h]; rfl
          have HV := Lib.hid (fun W => rValue_any ((s.drop i).take L) (by simp; omega) W)
          have x1 : Value.string ((⟨s.toArray⟩ : ByteArray).extract i C) = .string ⟨((s.drop i).take L).toArray⟩ := by
            congr 1; apply ByteArray.ext; apply Array.toList_inj.1; rw [Lib.extract_data]
            show (s.drop i).take (C - i) = _
            rw [show C - i = L by omega]
          have hRT : rTake (s.drop i) = if 0 ≤ valueL ((s.drop i).take L) ∧ (cut1 (s.drop i) 58).2.2 = true ∧ valueL ((s.drop i).take L) < (cut1 (s.drop i) 58).2.1.length ∧ (cut1 (s.drop i) 58).2.1[(valueL ((s.drop i).take L)).toNat]? = some 44 then
              some ((cut1 (s.drop i) 58).2.1.take (valueL ((s.drop i).take L)).toNat, (cut1 (s.drop i) 58).2.1.drop ((valueL ((s.drop i).take L)).toNat + 1)) else none := by
            unfold rTake
            rw [HC2.out]
          have HNN := Lib.hid hN
          have HRT := Lib.hid hRT
          have hCi : (i : Int) ≤ (C : Int) := by omega
          have hCz : (C : Int) ≤ (s.length : Int) := by omega
          clear hN hRT
          rw [hC]
          obtain ⟨n, hn⟩ : ∃ n, valueL ((s.drop i).take L) = n := ⟨_, rfl⟩
          rw [hn] at HV HRT
          by_cases hCs : C < s.length
          · have hCsz : (C : Int) < (s.length : Int) := by omega
            have h4 := HC4.out (by rw [List.length_drop]; omega)
            have hx : ((((⟨s.toArray⟩ : ByteArray)[C]'(by rw [hbs]; exact hCs)).toNat : Int) != 58) = false := by
              rw [bne_eq_false_iff_eq, HBG.out C hCs]
              have := h4.1
              rw [List.getElem_drop] at this
              have h5 : s[C] = 58 := by rw [← this]; congr 1; omega
              rw [h5]; rfl
            have hcut := h4.2
            rw [List.drop_drop, show i + (L + 1) = C + 1 by omega] at hcut
            rw [hcut] at HRT
            simp only [true_and] at HRT
            clear h4 hcut
            go_wp2_with fail
            refine (HV.out _).mono ?_
            rintro e w2 ⟨rfl, rfl⟩
            clear x1
            by_cases hn0 : n < 0
            · have hF : res = none := HNN.out (by rw [HRT.out, if_neg (fun h => by omega)])
              have hF := Lib.hid hF
              go_wp2
              go_ret2
              rw [hF.out]
              exact ⟨.slice none 0 0, rfl, slAt_nil _ _, HB.out⟩
            obtain ⟨k, rfl⟩ := Int.eq_ofNat_of_zero_le (show 0 ≤ n by omega)
            simp only [Int.toNat_natCast, List.length_drop] at HRT
            by_cases hkl : C + 1 + k < s.length
            · have hkz : ¬ ((s.length : Int) - (C : Int) - 2 < (k : Int)) := by omega
              have hiz : (C : Int) + 1 + (k : Int) < (s.length : Int) := by omega
              have hiz0 : (0 : Int) ≤ (C : Int) + 1 + (k : Int) := by omega
              have hin' : ((C : Int) + 1 + (k : Int)).toNat = C + 1 + k := by omega
              have hgeq : ¬ ((s.length : Int) ≤ (C : Int)) := by omega
              have hd44 : (s.drop (C + 1))[k]? = some s[C + 1 + k] := by rw [List.getElem?_drop, List.getElem?_eq_getElem hkl]
              by_cases h44 : s[C + 1 + k] = 44
              · have hy : ((((⟨s.toArray⟩ : ByteArray)[C + 1 + k]'(by rw [hbs]; exact hkl)).toNat : Int) != 44) = false := by
                  rw [bne_eq_false_iff_eq, HBG.out _ hkl, h44]; rfl
                obtain ⟨t, ht⟩ : ∃ t, (s.drop (C + 1)).take k = t := ⟨_, rfl⟩
                have x2 : Value.string ((⟨s.toArray⟩ : ByteArray).extract (C + 1) (C + 1 + k)) = .string ⟨t.toArray⟩ := by
                  rw [← ht]; congr 1; apply ByteArray.ext; apply Array.toList_inj.1; rw [Lib.extract_data]
                  show (s.drop (C + 1)).take (C + 1 + k - (C + 1)) = _
                  rw [show C + 1 + k - (C + 1) = k by omega]
                have HNX : Hid (res = (fieldsL (s.drop (C + k + 2))).map ((acc ++ [t]) ++ ·)) := by
                  show _ = _
                  rw [HR.out, fieldsL_step _ hne, HRT.out, if_pos ⟨by omega, by omega, by rw [hd44, h44]⟩]
                  simp only
                  rw [ht, List.drop_drop, show C + 1 + (k + 1) = C + k + 2 by omega, Option.map_map]
                  congr 1
                  funext l
                  simp
                obtain ⟨rows, hrows⟩ : ∃ r, strRows acc = r := ⟨_, rfl⟩
                have hrl : rows.length = acc.length := by rw [← hrows, strRows_len]
                rw [hrows] at HO
                have HROWS := Lib.hid hrows
                have hsz := HB.out.size
                have p1 : (0 : Int) ≤ (C : Int) + 1 := by omega
                have p2 : (C : Int) + 1 ≤ (C : Int) + 1 + (k : Int) := by omega
                have p3 : (C : Int) + 1 + (k : Int) ≤ (s.length : Int) := by omega
                clear hrows hd44 h44 HRT HNN HR hne ht hn
                go_wp2_with (at_builtin
                             refine wpList_append_lies _ rfl _ _ 106 rfl w.heap.size 9 i0 _ 1 16 Tryz.underlying106 hi hz0 hz1 hz2 rfl (by decide) u4 rows.length rows.flatten rfl (HO.out.alloc _) ⟨wr.heap.size, 0, none⟩ 1 1 [.string ⟨t.toArray⟩] rfl rfl (fun j u hj => cells_new _ _ _ _ _ (by simpa using hj)) (by simp [Value.oneCell']) (by decide) (by simp only [maxLen]; omega) (by omega) (by simp; omega) _ rfl ?_
                             intro g cap wA hown hgr hat hlt3
                             have HO2 := Lib.hid hown
                             have HB2 : Hid (Below w.heap.size w wA) := (HB.out.alloc HB.out.size (.cells #[.string ⟨t.toArray⟩] 9)).grown hgr (by simp; omega) (fun x hx => own_ge HO.out hx)
                             clear hown hgr hat hlt3)
                go_roundg (s.length - (C + k + 2))
                case measure => omega
                case rel =>
                  refine ⟨C + k + 2, acc ++ [t], _, by omega, Nat.le_refl _, rfl, by go_num, by simp; omega, HNX, ?_, HB2⟩
                  have e : strRows (acc ++ [t]) = rows ++ [[.string ⟨t.toArray⟩]] := by rw [← HROWS.out]; simp [strRows]
                  have e2 : (rows ++ [[Value.string ⟨t.toArray⟩]]).length = acc.length + 1 := by simp [hrl]
                  have e3 : (rows ++ [[Value.string ⟨t.toArray⟩]]).flatten = rows.flatten ++ [Value.string ⟨t.toArray⟩] := by simp
                  have h9 := HO2.out
                  rw [hrl] at h9
                  rw [e, e2, e3]
                  exact h9
              · have hy : ((((⟨s.toArray⟩ : ByteArray)[C + 1 + k]'(by rw [hbs]; exact hkl)).toNat : Int) != 44) = true := by
                  rw [bne_iff_ne, HBG.out _ hkl]
                  intro h
                  exact h44 (UInt8.toNat_inj.1 (by have : (44 : UInt8).toNat = 44 := rfl; omega))
                have hF : res = none := HNN.out (by
                  rw [HRT.out, if_neg]
                  rintro ⟨_, _, h3⟩
                  rw [hd44] at h3
                  exact h44 (Option.some.inj h3))
                clear HRT HNN hd44
                have hF := Lib.hid hF
                go_wp2
                go_ret2
                rw [hF.out]
                exact ⟨.slice none 0 0, rfl, slAt_nil _ _, HB.out⟩
            · have hkz : (s.length : Int) - (C : Int) - 2 < (k : Int) := by omega
              have hgeq : ¬ ((s.length : Int) ≤ (C : Int)) := by omega
              have hF : res = none := HNN.out (by rw [HRT.out, if_neg (fun h => by have := h.2.1; omega)])
              clear HRT HNN
              have hF := Lib.hid hF
              go_wp2
              go_ret2
              rw [hF.out]
              exact ⟨.slice none 0 0, rfl, slAt_nil _ _, HB.out⟩
          · obtain rfl : C = s.length := by omega
            have hF : res = none := HNN.out (by rw [HRT.out, if_neg]; rintro ⟨_, h2, _⟩; rw [HC5.out (by rw [List.length_drop]; omega)] at h2; cases h2)
            clear HRT HNN
            go_wp2_with fail
            refine (HV.out _).mono ?_
            rintro e w2 ⟨rfl, rfl⟩
            clear x1
            by_cases hn0 : n < 0
            · skip
              have hF := Lib.hid hF
              go_wp2
              go_ret2
              rw [hF.out]
              exact ⟨.slice none 0 0, rfl, slAt_nil _ _, HB.out⟩
            · have hn1 : 0 ≤ n := by omega
              have hF := Lib.hid hF
              go_wp2
              go_ret2
              rw [hF.out]
              exact ⟨.slice none 0 0, rfl, slAt_nil _ _, HB.out⟩
    · obtain rfl : i = s.length := by omega
      have hF : res = some acc := by rw [HR.out, List.drop_length]; simp [fieldsL_nil]
      go_wp2
      go_ret2
      refine ⟨u4, by rw [hF]; rfl, ?_, HB.out⟩
      rw [hF]
      exact own_slAt HO.out (strRows_one acc) (by rw [strRows_len]; show acc.length ≤ _; omega)

end Go.Proofs.YtajmkkjlhmeolaaGreatDoor

/-
  What the reference reads of a record, case by case (plain).
-/
namespace Go.Proofs.YtajmkkjlhmeolaaGreatDoor
open Go.RowKit Go.Lib

theorem rPart_none {s : List UInt8} (h : fieldsL s = none) : readPartL s = none := by
  rw [← rPartOf_eq]
  unfold rPartOf
  rw [h]
theorem rPart_yes {s : List UInt8} {l : List (List UInt8)} (h : fieldsL s = some l) (h1 : l.length = 6) (h2 : PartRight (rPartC l)) (h3 : partL (rPartC l) = s) : readPartL s = some (rPartC l) := by
  rw [← rPartOf_eq]
  unfold rPartOf
  rw [h]
  simp only
  rw [if_pos ⟨h1, h2, h3⟩]
theorem rPart_no {s : List UInt8} {l : List (List UInt8)} (h : fieldsL s = some l) (hn : ¬ (l.length = 6 ∧ PartRight (rPartC l) ∧ partL (rPartC l) = s)) : readPartL s = none := by
  rw [← rPartOf_eq]
  unfold rPartOf
  rw [h]
  simp only
  rw [if_neg hn]

theorem rUp_none {s : List UInt8} (h : fieldsL s = none) : readUpL s = none := by
  rw [← rUpOf_eq]
  unfold rUpOf
  rw [h]
theorem rUp_yes {s : List UInt8} {l : List (List UInt8)} (h : fieldsL s = some l) (h1 : l.length = 7) (h2 : UpRight (rUpC l)) (h3 : upL (rUpC l) = s) : readUpL s = some (rUpC l) := by
  rw [← rUpOf_eq]
  unfold rUpOf
  rw [h]
  simp only
  rw [if_pos ⟨h1, h2, h3⟩]
theorem rUp_no {s : List UInt8} {l : List (List UInt8)} (h : fieldsL s = some l) (hn : ¬ (l.length = 7 ∧ UpRight (rUpC l) ∧ upL (rUpC l) = s)) : readUpL s = none := by
  rw [← rUpOf_eq]
  unfold rUpOf
  rw [h]
  simp only
  rw [if_neg hn]

theorem rVer_none {s : List UInt8} (h : fieldsL s = none) : readVerL s = none := by
  rw [← rVerOf_eq]
  unfold rVerOf
  rw [h]
theorem rVer_yes {s : List UInt8} {l : List (List UInt8)} (h : fieldsL s = some l) (h1 : 9 ≤ l.length) (h2 : VerRight (rVerC l)) (h3 : verL (rVerC l) = s) : readVerL s = some (rVerC l) := by
  rw [← rVerOf_eq]
  unfold rVerOf
  rw [h]
  simp only
  rw [if_pos ⟨h1, h2, h3⟩]
theorem rVer_no {s : List UInt8} {l : List (List UInt8)} (h : fieldsL s = some l) (hn : ¬ (9 ≤ l.length ∧ VerRight (rVerC l) ∧ verL (rVerC l) = s)) : readVerL s = none := by
  rw [← rVerOf_eq]
  unfold rVerOf
  rw [h]
  simp only
  rw [if_neg hn]

theorem rBk_none {s : List UInt8} (h : fieldsL s = none) : readBkL s = none := by
  rw [← rBkOf_eq]
  unfold rBkOf
  rw [h]
theorem rBk_yes {s : List UInt8} {l : List (List UInt8)} (h : fieldsL s = some l) (h1 : 7 ≤ l.length) (h2 : BkRight (rBkC l)) (h3 : bkL (rBkC l) = s) : readBkL s = some (rBkC l) := by
  rw [← rBkOf_eq]
  unfold rBkOf
  rw [h]
  simp only
  rw [if_pos ⟨h1, h2, h3⟩]
theorem rBk_no {s : List UInt8} {l : List (List UInt8)} (h : fieldsL s = some l) (hn : ¬ (7 ≤ l.length ∧ BkRight (rBkC l) ∧ bkL (rBkC l) = s)) : readBkL s = none := by
  rw [← rBkOf_eq]
  unfold rBkOf
  rw [h]
  simp only
  rw [if_neg hn]

theorem rTake_part {l t r : List UInt8} (h : rTake l = some (t, r)) : t.length ≤ l.length := by
  unfold rTake at h
  split at h
  · simp only [Option.some.injEq, Prod.mk.injEq] at h
    obtain ⟨rfl, _⟩ := h
    have := (cut1_len l 58).2
    rw [List.length_take]
    omega
  · cases h
theorem rFields_mem : ∀ (k : Nat) (s : List UInt8) (l : List (List UInt8)), rFields k s = some l → ∀ t ∈ l, t.length ≤ s.length
  | 0, s, l, h, t, ht => by
    unfold rFields at h
    split at h
    · obtain rfl := Option.some.inj h; cases ht
    · cases h
  | k + 1, s, l, h, t, ht => by
    unfold rFields at h
    split at h
    · obtain rfl := Option.some.inj h; cases ht
    · split at h
      · rename_i a r har
        cases hr : rFields k r with
        | none => rw [hr] at h; cases h
        | some m =>
          rw [hr] at h
          obtain rfl := Option.some.inj h
          rcases List.mem_cons.1 ht with rfl | ht
          · exact rTake_part har
          · have := rFields_mem k r m hr t ht
            have := rTake_len har
            omega
      · cases h
/-- a field is no longer than the text -/
theorem fieldsL_mem {s : List UInt8} {l : List (List UInt8)} (h : fieldsL s = some l) : ∀ t ∈ l, t.length ≤ s.length := rFields_mem _ _ _ h

end Go.Proofs.YtajmkkjlhmeolaaGreatDoor
