/-
  The law CycleLater: the walk.
-/
import Derived.Test.YtnnfcbebjbfkoaaDoorCyEx
import Derived.Test.YtnnfcbebjbfkoaaDoorCyLaterP
import Derived.Test.YtnnfcbebjbfkoaaDoorWords
namespace Go.Proofs.YtnnfcbebjbfkoaaDoor
open Go.RowKit

theorem info_string : ∃ i, Tryd.prog.info? 9 = some i ∧ i.zero = some (.string ⟨#[]⟩) ∧ i.size = 1 ∧ i.bytes = 16 :=
  info_parts (show (Tryd.prog.info? 9).map (fun i => (i.zero, i.size, i.bytes)) = some (some (.string ⟨#[]⟩), 1, 16) by kernel_rfl)

theorem RulesIn.reads {w : World} {a : Option Addr} {n c : Nat} {l : List RuleV} (h : RulesIn w (.slice a n c) l) : n = l.length ∧ Reads w w.heap.size 6 a n (flat l) := by
  obtain ⟨a', c', he, hl, h⟩ := h
  simp only [Value.slice.injEq] at he
  obtain ⟨rfl, rfl, rfl⟩ := he
  refine ⟨rfl, flat_length l, fun hp => ?_⟩
  obtain ⟨b, off, rfl, hc⟩ := h hp
  have hcell : ∀ j u, (flat l)[j]? = some u → w.cell? ⟨b, off + j, none⟩ = some u := fun j u hj => by
    have hlt : j < l.length * 6 := by rw [← flat_length]; exact (List.getElem?_eq_some_iff.1 hj).1
    have hi' : j / 6 < l.length := by omega
    have := flat_get l (j / 6) l[j / 6] (List.getElem?_eq_getElem hi') (j % 6) (by omega)
    rw [show j / 6 * 6 + j % 6 = j from by omega, hj] at this
    have := hc (j / 6) l[j / 6] (List.getElem?_eq_getElem hi') (j % 6) u this.symm
    rw [show off + j / 6 * 6 + j % 6 = off + j from by omega] at this
    exact this
  refine ⟨_, rfl, ?_, fun j u hj => by rw [Addr.add_lit]; exact hcell j u hj⟩
  have h0 : 0 < (flat l).length := by rw [flat_length]; omega
  exact World.block_lt_of_cell? w _ (hcell 0 _ (List.getElem?_eq_getElem h0))

set_option maxHeartbeats 2000000 in
set_option maxRecDepth 100000 in
theorem later_walk (ls : List RuleW) (m : RuleW) (mode : Int) (key : ByteArray) (vs : List VersionV) (now later : Int) (lv vv : Value) (w : World) (hG : Glob w) (hmode : IntOK mode) (hnow : IntOK now) (hlat : IntOK later) (hvs : ∀ v ∈ vs, v.OK)
    (hL : RulesIn w lv (ls.map Subtype.val)) (hln : ls.length ≤ 2199023255500) (hV : VersionsIn w vv vs) :
    Calls Tryd.prog 4 #[lv, m.val.ag, .int .i64 mode, .string key, vv, .int .i64 now, .int .i64 later] w fun e w' => e = .returned (.bool true) ∧ Below w.heap.size w w' := by
  obtain ⟨i0, hi, hz0, hz1, hz2⟩ := info_rule
  obtain ⟨al, cl, rfl⟩ : ∃ a c, lv = .slice a ls.length c := by obtain ⟨a, c, h, _⟩ := hL; rw [List.length_map] at h; exact ⟨a, c, h⟩
  obtain ⟨av, cv, rfl⟩ : ∃ a c, vv = .slice a vs.length c := by obtain ⟨a, c, h, _⟩ := hV; exact ⟨a, c, h⟩
  have hvl : vs.length ≤ 2199023255552 := by obtain ⟨_, _, _, h, _⟩ := hV; exact h
  have HL := Lib.hid hL
  have HV := Lib.hid hV
  have HVS := Lib.hid hvs
  have HG := Lib.hid hG
  have HM := Lib.hid hmode
  have HN := Lib.hid hnow
  have HT := Lib.hid hlat
  obtain ⟨⟨oa, fa⟩, hoa⟩ : ∃ o, Hid (due (ls.map Subtype.val) mode key vs now = o) := ⟨_, rfl⟩
  obtain ⟨⟨ob, fb⟩, hob⟩ : ∃ o, Hid (due (ls.map Subtype.val) mode key vs later = o) := ⟨_, rfl⟩
  obtain ⟨⟨oc, fc⟩, hoc⟩ : ∃ o, Hid (due (m.val :: ls.map Subtype.val) mode key vs now = o) := ⟨_, rfl⟩
  unfold IntOK at hnow hlat
  obtain ⟨n1, n2⟩ := hnow
  obtain ⟨l1, l2⟩ := hlat
  clear hL hV hvs hG hmode
  obtain ⟨⟨mid, mpre, mon, md, mn, ma⟩, hmok⟩ := m
  simp only [RuleV.ag] at *
  have HMO := Lib.hid hmok
  clear hmok
  go_enter Tryd.func4, Tryd.ntmps4
  go_wp2_with fail
  refine (ex_walk _ (HG.out.later (below_alloc (Below.refl _ _) (Nat.le_refl _) _))).mono ?_
  rintro e w1 ⟨rfl, hb1⟩
  have s1 := hb1.size
  simp at s1
  have d0 : w1.cell? ⟨w.heap.size, 0, none⟩ = some (.string mid) := cell_later hb1 (cell_new _ _ _ _ _ _ rfl rfl)
  have d1 : w1.cell? ⟨w.heap.size, 1, none⟩ = some (.string mpre) := cell_later hb1 (cell_new _ _ _ _ _ _ rfl rfl)
  have d2 : w1.cell? ⟨w.heap.size, 2, none⟩ = some (.bool mon) := cell_later hb1 (cell_new _ _ _ _ _ _ rfl rfl)
  have d3 : w1.cell? ⟨w.heap.size, 3, none⟩ = some (.int .i64 md) := cell_later hb1 (cell_new _ _ _ _ _ _ rfl rfl)
  have d4 : w1.cell? ⟨w.heap.size, 4, none⟩ = some (.int .i64 mn) := cell_later hb1 (cell_new _ _ _ _ _ _ rfl rfl)
  have d5 : w1.cell? ⟨w.heap.size, 5, none⟩ = some (.int .i64 ma) := cell_later hb1 (cell_new _ _ _ _ _ _ rfl rfl)
  have B1 : Hid (Below w.heap.size w w1) := (below_alloc (Below.refl _ _) (Nat.le_refl _) _).trans (hb1.mono (by simp))
  have D : Hid (∀ W, Below w1.heap.size w1 W → ∀ (j : Nat) u, (#[Value.string mid, .string mpre, .bool mon, .int .i64 md, .int .i64 mn, .int .i64 ma] : Array Value)[j]? = some u → W.cell? ⟨w.heap.size, j, none⟩ = some u) := by
    intro W hW j u hj
    have := (Array.getElem?_eq_some_iff.1 hj).1
    match j, this with
    | 0, _ => cases hj; exact cell_later hW d0
    | 1, _ => cases hj; exact cell_later hW d1
    | 2, _ => cases hj; exact cell_later hW d2
    | 3, _ => cases hj; exact cell_later hW d3
    | 4, _ => cases hj; exact cell_later hW d4
    | 5, _ => cases hj; exact cell_later hW d5
  clear hb1 d0 d1 d2 d3 d4 d5
  by_cases hz : now < 0
  · go_wp2
    go_ret
    exact ⟨rfl, B1.out⟩
  by_cases hlt : later < now
  · go_wp2
    go_ret
    exact ⟨rfl, B1.out⟩
  by_cases hmx : later > 253402300799
  · go_wp2
    go_ret
    exact ⟨rfl, B1.out⟩
  have hord : now ≤ later := by omega
  have HP1 := Lib.hid (due_later (ls.map Subtype.val) mode key vs hord)
  have HP2 := Lib.hid (due_more ⟨mid, mpre, mon, md, mn, ma⟩ (ls.map Subtype.val) mode key vs now)
  have HP3 := Lib.hid (due_len (ls.map Subtype.val) mode key vs now)
  have hbl := due_len (ls.map Subtype.val) mode key vs later
  have hcl := due_len (⟨mid, mpre, mon, md, mn, ma⟩ :: ls.map Subtype.val) mode key vs now
  rw [hob.out] at hbl
  rw [hoc.out] at hcl
  simp only at hbl hcl
  rw [hoa.out] at HP1 HP2 HP3
  rw [hob.out] at HP1
  rw [hoc.out] at HP2
  simp only at HP1 HP2 HP3
  clear hord
  go_wp2_with fail
  refine (due_walk ls mode key vs now _ _ _ HM.out HN.out HVS.out (HL.out.later B1.out) (HV.out.later B1.out)).mono ?_
  rw [hoa.out]
  rintro e w2 ⟨va, rfl, ho2⟩
  have IA2 : Hid (IntsIn w2 va oa) := IntsIn.of_own ho2.own
  have W2 : Hid (Below w1.heap.size w1 w2) := ho2.below
  have B2 : Hid (Below w.heap.size w w2) := B1.out.trans (W2.out.mono B1.out.size)
  obtain ⟨aa, ca, rfl⟩ : ∃ a c, va = .slice a oa.length c := by obtain ⟨a, c, h, _⟩ := IA2.out; exact ⟨a, c, h⟩
  clear ho2
  go_wp2_with fail
  refine (due_walk ls mode key vs later _ _ _ HM.out HT.out HVS.out (HL.out.later B2.out) (HV.out.later B2.out)).mono ?_
  rw [hob.out]
  rintro e w3 ⟨vb, rfl, ho3⟩
  have IB3 : Hid (IntsIn w3 vb ob) := IntsIn.of_own ho3.own
  have IA3 : Hid (IntsIn w3 (.slice aa oa.length ca) oa) := IA2.out.later ho3.below
  have W3 : Hid (Below w1.heap.size w1 w3) := W2.out.trans (ho3.below.mono W2.out.size)
  have B3 : Hid (Below w.heap.size w w3) := B1.out.trans (W3.out.mono B1.out.size)
  obtain ⟨ab, cb, rfl⟩ : ∃ a c, vb = .slice a ob.length c := by obtain ⟨a, c, h, _⟩ := IB3.out; exact ⟨a, c, h⟩
  clear ho3 IA2 W2 B2
  have d0 := D.out w3 W3.out 0 _ rfl
  have d1 := D.out w3 W3.out 1 _ rfl
  have d2 := D.out w3 W3.out 2 _ rfl
  have d3 := D.out w3 W3.out 3 _ rfl
  have d4 := D.out w3 W3.out 4 _ rfl
  have d5 := D.out w3 W3.out 5 _ rfl
  have RD : Hid (Reads (w3.alloc (.cells #[.string mid, .string mpre, .bool mon, .int .i64 md, .int .i64 mn, .int .i64 ma] 34)) w3.heap.size 6 al ls.length (flat (ls.map Subtype.val))) :=
    (RulesIn.reads (HL.out.later B3.out)).2.alloc (Nat.le_refl _) _
  go_wp2_with (at_builtin; refine wpList_append_any _ rfl _ _ 26 rfl w3.heap.size 34 i0 _ 6 64 Tryd.underlying26 hi hz0 hz1 hz2 rfl (by decide) (.slice (some ⟨w3.heap.size, 0, none⟩) 1 1) 1 [.string mid, .string mpre, .bool mon, .int .i64 md, .int .i64 mn, .int .i64 ma] rfl ?own w3.heap.size al ls.length cl (flat (ls.map Subtype.val)) rfl RD.out (flat_one _) ?c3 ?c4 ?c5 ?_)
  case own => exact ⟨by simp, .inr ⟨w3.heap.size, 1, _, rfl, Nat.le_refl _, heap_alloc_new _ _, by omega, by simp [maxLen], rfl, rfl⟩⟩
  case c3 => simp only [maxLen]; omega
  case c4 => omega
  case c5 => simp
  intro v4 w4 hown4 hg4 _
  have X4 : Hid (Below w3.heap.size w3 w4) := (below_alloc (Below.refl _ _) (Nat.le_refl _) _).grown hg4 (by simp) (fun k hk => by simp [Value.ownBlock] at hk; omega)
  have B4 : Hid (Below w.heap.size w w4) := B3.out.trans (X4.out.mono B3.out.size)
  have R4 : Hid (RulesIn w4 v4 (((⟨⟨mid, mpre, mon, md, mn, ma⟩, HMO.out⟩ : RuleW) :: ls).map Subtype.val)) := by
    refine RulesIn.of_own (base := w3.heap.size) ?_ (by simp; omega)
    have h := hown4
    rw [Nat.add_comm] at h
    simpa [flat, RuleV.cells] using h
  have IA4 : Hid (IntsIn w4 (.slice aa oa.length ca) oa) := IA3.out.later X4.out
  have IB4 : Hid (IntsIn w4 (.slice ab ob.length cb) ob) := IB3.out.later X4.out
  clear hown4 hg4 RD d0 d1 d2 d3 d4 d5 IA3 IB3 X4 W3 B3 D
  go_wp2_with fail
  refine (due_walk ((⟨⟨mid, mpre, mon, md, mn, ma⟩, HMO.out⟩ : RuleW) :: ls) mode key vs now _ _ _ HM.out HN.out HVS.out R4.out (HV.out.later B4.out)).mono ?_
  rw [show due (((⟨⟨mid, mpre, mon, md, mn, ma⟩, HMO.out⟩ : RuleW) :: ls).map Subtype.val) mode key vs now = (oc, fc) from hoc.out]
  rintro e w5 ⟨vc, rfl, ho5⟩
  have IC : Hid (IntsIn w5 vc oc) := IntsIn.of_own ho5.own
  have IA : Hid (IntsIn w5 (.slice aa oa.length ca) oa) := IA4.out.later ho5.below
  have IB : Hid (IntsIn w5 (.slice ab ob.length cb) ob) := IB4.out.later ho5.below
  have B5 : Hid (Below w.heap.size w w5) := B4.out.trans (ho5.below.mono B4.out.size)
  obtain ⟨ac, cc, rfl⟩ : ∃ a c, vc = .slice a oc.length c := by obtain ⟨a, c, h, _⟩ := IC.out; exact ⟨a, c, h⟩
  clear ho5 IA4 IB4 R4 B4
  have HLA := HP3.out
  go_wp2
  go_loopg [22, 23, 24, 25, 26] oa.length (fun gg s22 _ _ _ _ wr => ∃ i : Nat, i ≤ oa.length ∧ oa.length - i ≤ gg ∧ s22 = .int .i64 i ∧ Hid (Below w5.heap.size w5 wr))
  case atStart => exact ⟨0, Nat.zero_le _, by omega, rfl, (show Hid _ from Below.refl _ _)⟩
  case round =>
    obtain ⟨i, hin, hgg, rfl, HB⟩ := hrel
    obtain ⟨wo, rfl⟩ : ∃ wo : World, wo = wr := ⟨_, rfl⟩
    by_cases hil : i < oa.length
    · obtain ⟨x, HX⟩ : ∃ x, Hid (oa[i]? = some x) := ⟨_, List.getElem?_eq_getElem hil⟩
      have hilz : (i : Int) < (oa.length : Int) := by omega
      have hxa : x ∈ oa := List.mem_of_getElem? HX.out
      have MB : Hid (among ob ob.length x = true) := among_all (HP1.out.1 x hxa)
      have MC : Hid (among oc oc.length x = true) := among_all (HP2.out.1 x hxa)
      obtain ⟨bA, oA, rfl, HCA⟩ : ∃ b off, aa = some ⟨b, off, none⟩ ∧ Hid (wo.cell? ⟨b, off + i, none⟩ = some (.int .i64 x)) := by
        obtain ⟨a', c', h1, h2⟩ := IA.out
        obtain ⟨b, off, h3, h4⟩ := h2 (by omega)
        simp only [Value.slice.injEq] at h1
        exact ⟨b, off, h1.1.trans h3, cell_later HB.out (h4 i x HX.out)⟩
      clear hxa
      go_wp2
      go_loopg [23, 24] ob.length (fun gg s23 s24 wr => ∃ k : Nat, k ≤ ob.length ∧ ob.length - k ≤ gg ∧ s24 = .int .i64 k ∧ s23 = .bool (among ob k x) ∧ Hid (Below wo.heap.size wo wr))
      case atStart => exact ⟨0, Nat.zero_le _, by omega, rfl, rfl, (show Hid _ from Below.refl _ _)⟩
      case round =>
        obtain ⟨k, hkn, hgk, rfl, rfl, HK⟩ := hrel
        by_cases hkl : k < ob.length
        · obtain ⟨y, HY⟩ : ∃ y, Hid (ob[k]? = some y) := ⟨_, List.getElem?_eq_getElem hkl⟩
          have hkz : (k : Int) < (ob.length : Int) := by omega
          obtain ⟨bB, oB, hab, hcb⟩ : ∃ b off, ab = some ⟨b, off, none⟩ ∧ wr.cell? ⟨b, off + k, none⟩ = some (.int .i64 y) := by
            obtain ⟨a', c', h1, h2⟩ := IB.out
            obtain ⟨b, off, h3, h4⟩ := h2 (by omega)
            simp only [Value.slice.injEq] at h1
            exact ⟨b, off, h1.1.trans h3, cell_later HK.out (cell_later HB.out (h4 k y HY.out))⟩
          subst hab
          have hca : wr.cell? ⟨bA, oA + i, none⟩ = some (.int .i64 x) := cell_later HK.out HCA.out
          have HS := Lib.hid (among_succ HY.out x)
          cases ha : among ob k x with
          | true =>
            rw [ha] at HS
            clear ha
            go_wp2
            go_quiet (fail)
            go_wp2
            go_roundg (ob.length - (k + 1))
            case measure => omega
            case rel => exact ⟨k + 1, by omega, Nat.le_refl _, by go_num, by rw [HS.out]; rfl, below_drewN HK.out _⟩
          | false =>
            rw [ha] at HS
            clear ha
            by_cases hyx : y = x
            · subst hyx
              go_wp2
              go_quiet (fail)
              go_wp2
              go_roundg (ob.length - (k + 1))
              case measure => omega
              case rel => exact ⟨k + 1, by omega, Nat.le_refl _, by go_num, by rw [HS.out]; simp, below_drewN HK.out _⟩
            · have hq : (y == x) = false := beq_eq_false_iff_ne.2 hyx
              clear hyx
              go_wp2
              go_quiet (fail)
              go_wp2
              go_roundg (ob.length - (k + 1))
              case measure => omega
              case rel => exact ⟨k + 1, by omega, Nat.le_refl _, by go_num, by rw [HS.out, hq]; rfl, below_drewN HK.out _⟩
        · obtain rfl : k = ob.length := by omega
          rw [MB.out]
          obtain ⟨wq, rfl⟩ : ∃ wq : World, wq = wr := ⟨_, rfl⟩
          go_wp2
          go_loopg [25, 26] oc.length (fun gg s25 s26 wr => ∃ k : Nat, k ≤ oc.length ∧ oc.length - k ≤ gg ∧ s26 = .int .i64 k ∧ s25 = .bool (among oc k x) ∧ Hid (Below wo.heap.size wo wr))
          case atStart => exact ⟨0, Nat.zero_le _, by omega, rfl, rfl, HK.out⟩
          case round =>
            obtain ⟨k, hkn, hgk, rfl, rfl, HK⟩ := hrel
            by_cases hkl : k < oc.length
            · obtain ⟨y, HY⟩ : ∃ y, Hid (oc[k]? = some y) := ⟨_, List.getElem?_eq_getElem hkl⟩
              have hkz : (k : Int) < (oc.length : Int) := by omega
              obtain ⟨bB, oB, hab, hcb⟩ : ∃ b off, ac = some ⟨b, off, none⟩ ∧ wr.cell? ⟨b, off + k, none⟩ = some (.int .i64 y) := by
                obtain ⟨a', c', h1, h2⟩ := IC.out
                obtain ⟨b, off, h3, h4⟩ := h2 (by omega)
                simp only [Value.slice.injEq] at h1
                exact ⟨b, off, h1.1.trans h3, cell_later HK.out (cell_later HB.out (h4 k y HY.out))⟩
              subst hab
              have hca : wr.cell? ⟨bA, oA + i, none⟩ = some (.int .i64 x) := cell_later HK.out HCA.out
              have HS := Lib.hid (among_succ HY.out x)
              cases ha : among oc k x with
              | true =>
                rw [ha] at HS
                clear ha
                go_wp2
                go_quiet (fail)
                go_wp2
                go_roundg (oc.length - (k + 1))
                case measure => omega
                case rel => exact ⟨k + 1, by omega, Nat.le_refl _, by go_num, by rw [HS.out]; rfl, below_drewN HK.out _⟩
              | false =>
                rw [ha] at HS
                clear ha
                by_cases hyx : y = x
                · subst hyx
                  go_wp2
                  go_quiet (fail)
                  go_wp2
                  go_roundg (oc.length - (k + 1))
                  case measure => omega
                  case rel => exact ⟨k + 1, by omega, Nat.le_refl _, by go_num, by rw [HS.out]; simp, below_drewN HK.out _⟩
                · have hq : (y == x) = false := beq_eq_false_iff_ne.2 hyx
                  clear hyx
                  go_wp2
                  go_quiet (fail)
                  go_wp2
                  go_roundg (oc.length - (k + 1))
                  case measure => omega
                  case rel => exact ⟨k + 1, by omega, Nat.le_refl _, by go_num, by rw [HS.out, hq]; rfl, below_drewN HK.out _⟩
            · obtain rfl : k = oc.length := by omega
              rw [MC.out]
              go_wp2
              go_roundg (oa.length - (i + 1))
              case measure => omega
              case rel => exact ⟨i + 1, by omega, Nat.le_refl _, by go_num, HB.out.trans (HK.out.mono HB.out.size)⟩
    · obtain rfl : i = oa.length := by omega
      have BE : Hid (Below w.heap.size w wo) := B5.out.trans (HB.out.mono B5.out.size)
      cases fa with
      | false =>
        go_wp2
        go_ret
        exact ⟨by simp, BE.out⟩
      | true =>
        obtain rfl : fb = true := HP1.out.2 rfl
        obtain rfl : fc = true := HP2.out.2 rfl
        go_wp2
        go_ret
        exact ⟨by simp, BE.out⟩

end Go.Proofs.YtnnfcbebjbfkoaaDoor
