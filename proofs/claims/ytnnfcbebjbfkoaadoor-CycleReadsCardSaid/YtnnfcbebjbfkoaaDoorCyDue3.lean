/-
  Due: the walk.
-/
import Derived.Test.YtnnfcbebjbfkoaaDoorCyDue2
namespace Go.Proofs.YtnnfcbebjbfkoaaDoor
open Go.RowKit

theorem info_int : ∃ i, Tryd.prog.info? 3 = some i ∧ i.zero = some (.int .i64 0) ∧ i.size = 1 ∧ i.bytes = 8 :=
  info_parts (show (Tryd.prog.info? 3).map (fun i => (i.zero, i.size, i.bytes)) = some (some (.int .i64 0), 1, 8) by kernel_rfl)

/-- what Due leaves -/
structure DueOut (w w' : World) (v : Value) (o : List Int) : Prop where
  own : w'.ownsRow w.heap.size 3 1 v o.length (o.map (Value.int .i64))
  below : Below w.heap.size w w'

set_option maxHeartbeats 2000000 in
set_option maxRecDepth 100000 in
theorem due_walk (ls : List RuleW) (mode : Int) (key : ByteArray) (vs : List VersionV) (now : Int) (lv vv : Value) (w : World) (hmode : IntOK mode) (hnow : IntOK now) (hvs : ∀ v ∈ vs, v.OK)
    (hL : RulesIn w lv (ls.map Subtype.val)) (hV : VersionsIn w vv vs) :
    Calls Tryd.prog 11 #[lv, .int .i64 mode, .string key, vv, .int .i64 now] w fun e w' => ∃ v, e = .returned (.tuple #[v, .bool (due (ls.map Subtype.val) mode key vs now).2]) ∧ DueOut w w' v (due (ls.map Subtype.val) mode key vs now).1 := by
  obtain ⟨i0, hi, hz0, hz1, hz2⟩ := info_int
  obtain ⟨al, cl, rfl⟩ : ∃ a c, lv = .slice a ls.length c := by obtain ⟨a, c, h, _⟩ := hL; rw [List.length_map] at h; exact ⟨a, c, h⟩
  obtain ⟨av, cv, rfl⟩ : ∃ a c, vv = .slice a vs.length c := by obtain ⟨a, c, h, _⟩ := hV; exact ⟨a, c, h⟩
  have hvl : vs.length ≤ 2199023255552 := by obtain ⟨_, _, _, h, _⟩ := hV; exact h
  -- the clone, the deletion
  have hclone : ∀ W, Below w.heap.size w W → Calls Tryd.prog 24 #[.slice al ls.length cl] W fun e w' => ∃ v', e = .returned v' ∧ w'.ownsRow W.heap.size 34 6 v' (ls.map Subtype.val).length (flat (ls.map Subtype.val)) ∧ Below W.heap.size W w' :=
    fun W hW => clone_any _ _ W (hL.later hW)
  have hlen : (ls.map Subtype.val).length ≤ 2199023255552 := by obtain ⟨_, _, _, h, _⟩ := hL; exact h
  have HC := Lib.hid hclone
  have HV := Lib.hid hV
  have HVS := Lib.hid hvs
  have HL := Lib.hid hlen
  clear hclone hL hV hvs hlen
  unfold IntOK at hmode
  obtain ⟨hm1, hm2⟩ := hmode
  have HN := Lib.hid hnow
  clear hnow
  obtain ⟨qf, hqf⟩ : ∃ qf : RuleV → Bool, Hid (qf = fun r => fitsB r key) := ⟨_, rfl⟩
  obtain ⟨rs, hrs⟩ : ∃ rs : List RuleW, Hid (rs = ls.filter fun r => fitsB r.val key) := ⟨_, rfl⟩
  have hdue : Hid (due (ls.map Subtype.val) mode key vs now = dueTo (rs.map Subtype.val) mode vs now vs.length) := by
    show _ = _
    unfold due
    rw [hrs.out, List.filter_map]; rfl
  have hfil : Hid ((ls.map Subtype.val).filter qf = rs.map Subtype.val) := by
    show _ = _
    rw [hqf.out, hrs.out, List.filter_map]; rfl
  go_enter Tryd.func11, Tryd.ntmps11
  go_wp2_with fail
  refine ((HC.out _ (by repeat (first | exact Below.refl _ _ | (refine Below.alloc ?_ (by first | (simp; done) | (simp; omega) | omega) _)))).mono ?_)
  rintro e w4 ⟨v4, rfl, ho4, hb4⟩
  have s4 : w.heap.size + 3 ≤ w4.heap.size := by have := hb4.size; simp at this; omega
  have BW4 : Hid (Below w.heap.size w w4) := (below_alloc (below_alloc (below_alloc (Below.refl _ _) (Nat.le_refl _) _) (Nat.le_refl _) _) (Nat.le_refl _) _).trans (hb4.mono (by simp; omega))
  have k4 : w4.cell? ⟨w.heap.size, 0, none⟩ = some (.string key) := cell_later hb4 (cell_past _ (cell_past _ (cell_new _ _ _ _ _ _ rfl rfl)))
  have k5 : w4.cell? ⟨w.heap.size + 1, 0, none⟩ = some (.slice av vs.length cv) := cell_later hb4 (cell_past _ (cell_new _ _ _ _ _ _ (by simp) rfl))
  have k6 : w4.cell? ⟨w.heap.size + 2, 0, none⟩ = some (.int .i64 now) := cell_later hb4 (cell_new _ _ _ _ _ _ (by simp) rfl)
  have hdel := delete_any qf (ls.map Subtype.val) _ (w.heap.size + 3) w.heap.size v4 w4 HL.out (by simp) ho4 (fun W r hW => by
    rw [hqf.out]
    exact notFits_any r key w.heap.size W (by rw [hW.cell (by simp)]; exact k4))
  rw [hfil.out] at hdel
  have HD := Lib.hid hdel
  have K4 := Lib.hid k4
  have K5 := Lib.hid k5
  have K6 := Lib.hid k6
  clear ho4 hb4 hdel k4 k5 k6
  go_wp2_with fail
  refine (HD.out).mono ?_
  rintro e w5 ⟨v5, rfl, hr5, hb5⟩
  obtain ⟨a5, c5, rfl⟩ : ∃ a c, v5 = .slice a rs.length c := by obtain ⟨a, c, h, _⟩ := hr5; rw [List.length_map] at h; exact ⟨a, c, h⟩
  have s5 : w.heap.size + 3 ≤ w5.heap.size := by have := hb5.size; omega
  have k5 : w5.cell? ⟨w.heap.size + 1, 0, none⟩ = some (.slice av vs.length cv) := by rw [hb5.cell (by simp)]; exact K5.out
  have K65 : Hid (w5.cell? ⟨w.heap.size + 2, 0, none⟩ = some (.int .i64 now)) := by show _ = _; rw [hb5.cell (by simp)]; exact K6.out
  have BW5 : Hid (Below w.heap.size w w5) := BW4.out.trans (hb5.mono (by omega))
  have V5 : Hid (VersionsIn w5 (.slice av vs.length cv) vs) := HV.out.later BW5.out
  have R5 : Hid (RulesIn w5 (.slice a5 rs.length c5) (rs.map Subtype.val)) := hr5
  have K55 := Lib.hid k5
  clear hr5 hb5 HD K4 K5 K6 BW4 HV HC HL hfil hqf
  go_wp2
  clear k5
  go_loopg [12, 13, 14, 15, 16, 23] vs.length (fun gg s12 s13 _ _ _ s23 wr => ∃ i : Nat, i ≤ vs.length ∧ vs.length - i ≤ gg ∧ s23 = .int .i64 i ∧ s13 = .bool (dueTo (rs.map Subtype.val) mode vs now i).2 ∧ Hid (wr.ownsRow w5.heap.size 3 1 s12 (dueTo (rs.map Subtype.val) mode vs now i).1.length ((dueTo (rs.map Subtype.val) mode vs now i).1.map (Value.int .i64))) ∧ Hid (Below w5.heap.size w5 wr))
  case atStart => exact ⟨0, Nat.zero_le _, by omega, rfl, rfl, World.ownsRow_nil _ _ _ _, Below.refl _ _⟩
  case round =>
    obtain ⟨i, hin, hgg, rfl, rfl, HO, HB⟩ := hrel
    by_cases hlt : i < vs.length
    · have hltz : (i : Int) < (vs.length : Int) := by omega
      have sr := HB.out.size
      obtain ⟨v, HVi⟩ : ∃ v, Hid (vs[i]? = some v) := ⟨_, List.getElem?_eq_getElem hlt⟩
      obtain ⟨b, off, hav, e0, e1, e2, e3, e4, e5, e6, e7⟩ : ∃ b off, av = some ⟨b, off, none⟩ ∧ _ := by
        obtain ⟨a', c', h1, _, h2⟩ := V5.out
        obtain ⟨b, off, h3, h4⟩ := h2 (by omega)
        simp only [Value.slice.injEq] at h1
        exact ⟨b, off, h1.1.trans h3, ver_cells (fun j u hj => by
          have := h4 i v HVi.out j u hj
          rw [HB.out.cell (World.block_lt_of_cell? w5 _ this)]; exact this)⟩
      have hbl : b < wr.heap.size := World.block_lt_of_cell? wr _ e0
      subst hav
      go_wp2_with fail
      have HE : Hid (wr.cell? ⟨w.heap.size + 1, 0, none⟩ = some (.slice (some ⟨b, off, none⟩) vs.length cv)) := cell_later HB.out K55.out
      have HF : Hid (wr.cell? ⟨w.heap.size + 2, 0, none⟩ = some (.int .i64 now)) := cell_later HB.out K65.out
      refine (contains_any (α := RuleW) Subtype.val _ rs (fun r => lateOne vs i now r.val) _ _ _ (R5.out.later (below_alloc (below_alloc HB.out (Nat.le_refl _) _) (Nat.le_refl _) _)) (fun _ _ => by kernel_rfl) (fun W r hW => ?hp)).mono ?_
      case hp =>
        refine (late_any vs HVS.out now HN.out wr.heap.size (w.heap.size + 2) (w.heap.size + 1) (wr.heap.size + 1) i _ v W HVi.out (V5.out.later ((below_alloc (below_alloc HB.out (Nat.le_refl _) _) (Nat.le_refl _) _).trans (hW.mono (by simp; omega))))
          (cell_later hW (cell_past _ (cell_new _ _ _ _ _ _ rfl rfl))) (cell_later hW (cell_past _ (cell_past _ HF.out))) (cell_later hW (cell_past _ (cell_past _ HE.out)))
          (cell_later hW (cell_new _ _ _ _ _ _ (by simp) rfl)) (cell_later hW (cell_new _ _ _ _ _ _ (by simp) rfl)) r.val r.property).mono ?_
        rintro e w' ⟨he, hb'⟩
        exact ⟨he, hW.trans (hb'.mono hW.size)⟩
      rintro e w6 ⟨rfl, hb6⟩
      have s6 : wr.heap.size + 2 ≤ w6.heap.size := by have := hb6.size; simp at this; omega
      have B6 : Hid (Below w5.heap.size w5 w6) := (below_alloc (below_alloc HB.out (Nat.le_refl _) _) (Nat.le_refl _) _).trans (hb6.mono (by simp; omega))
      have O6 : Hid (w6.ownsRow w5.heap.size 3 1 u12 (dueTo (rs.map Subtype.val) mode vs now i).1.length ((dueTo (rs.map Subtype.val) mode vs now i).1.map (Value.int .i64))) := by
        refine ((HO.out.alloc _).alloc _).kept (row := none) ⟨hb6.os, hb6.tape, hb6.output, hb6.size, fun k hk _ => hb6.block k hk⟩ ?_
        cases Value.ownBlock u12 <;> simp
      have f0 : w6.cell? ⟨wr.heap.size, 0, none⟩ = some (.int .i64 i) := cell_later hb6 (cell_past _ (cell_new _ _ _ _ _ _ rfl rfl))
      have f1 : w6.cell? ⟨wr.heap.size + 1, 0, none⟩ = some (.int .i64 v.seq) := cell_later hb6 (cell_new _ _ _ _ _ _ (by simp) rfl)
      have f2 : w6.cell? ⟨wr.heap.size + 1, 2, none⟩ = some (.bool v.marker) := cell_later hb6 (cell_new _ _ _ _ _ _ (by simp) rfl)
      have hstep : Hid (dueTo (rs.map Subtype.val) mode vs now (i + 1) = dueStep (rs.map Subtype.val) mode vs now i v (dueTo (rs.map Subtype.val) mode vs now i)) := dueTo_succ HVi.out
      have hany : Hid ((rs.map Subtype.val).any (lateOne vs i now) = rs.any fun r => lateOne vs i now r.val) := by show _ = _; rw [List.any_map]; rfl
      have hol := dueTo_len (rs.map Subtype.val) mode vs now i
      have HSeq : Hid (IntOK v.seq) := (HVS.out v (List.mem_of_getElem? HVi.out)).1
      clear hb6 e0 e1 e2 e3 e4 e5 e6 e7
      generalize hd : dueTo (rs.map Subtype.val) mode vs now i = d at *
      obtain ⟨o, mk⟩ := d
      simp only at *
      cases hl : rs.any fun r => lateOne vs i now r.val with
      | false =>
        have HLf : Hid (dueTo (rs.map Subtype.val) mode vs now (i + 1) = (o, mk)) := by
          show _ = _
          rw [hstep.out]; unfold dueStep; rw [hany.out, hl]; simp
        clear hstep hany hl hd
        go_wp2
        go_roundg (vs.length - (i + 1))
        case measure => omega
        case rel => exact ⟨i + 1, by omega, by omega, by go_num, by rw [HLf.out], by rw [HLf.out]; exact O6.out, B6.out⟩
      | true =>
        by_cases h0 : i = 0
        · subst h0
          cases hm : v.marker with
          | false =>
            rw [hm] at f2
            by_cases hmode : mode = 0
            · have hmode2 : (mode != 0) = false := by simp [hmode]
              have HLf : Hid (dueTo (rs.map Subtype.val) mode vs now (0 + 1) = (o ++ [v.seq], mk)) := by
                show _ = _
                rw [hstep.out]; unfold dueStep; rw [hany.out, hl]; simp [hm, hmode]
              clear hstep hany hl hd hmode
              go_wp2_with (at_builtin; refine wpList_append_own _ rfl _ _ 36 rfl w5.heap.size 3 i0 (.int .i64 0) 1 8 Tryd.underlying36 hi hz0 hz1 hz2 rfl (by decide) _ _ _ rfl (O6.out.alloc _) ⟨w6.heap.size, 0, none⟩ 1 1 [.int .i64 v.seq] rfl rfl ?c1 ?c2 ?c3 ?c4 ?c5 ?_)
              case c1 => exact cell_one_new _ _ _
              case c2 => simp [Value.oneCell']
              case c3 => simp only [maxLen]; omega
              case c4 => omega
              case c5 => simp; omega
              intro v' w7 hown' hgrow _
              have O7 : Hid (w7.ownsRow w5.heap.size 3 1 v' (o ++ [v.seq]).length ((o ++ [v.seq]).map (Value.int .i64))) := by
                show World.ownsRow _ _ _ _ _ _ _
                simpa using hown'
              have B7 : Hid (Below w5.heap.size w5 w7) := by
                have hlt' := (O6.out.alloc (.cells #[.int .i64 v.seq] 3)).lt
                exact (below_alloc B6.out (Nat.le_refl _) _).grown hgrow (by simp; omega) (fun k hk => (hlt' k hk).1)
              clear hown' hgrow
              go_wp2
              go_roundg (vs.length - (0 + 1))
              case measure => omega
              case rel => exact ⟨0 + 1, by omega, by omega, by go_num, by rw [HLf.out], by rw [HLf.out]; exact O7.out, B7.out⟩
            · have hmode' : (mode == 0) = false := beq_eq_false_iff_ne.2 hmode
              have hmode2 : (mode != 0) = true := by rw [bne_iff_ne]; exact hmode
              have HLf : Hid (dueTo (rs.map Subtype.val) mode vs now (0 + 1) = (o, true)) := by
                show _ = _
                rw [hstep.out]; unfold dueStep; rw [hany.out, hl]; simp [hm, hmode]
              clear hstep hany hl hd hmode
              go_wp2
              go_roundg (vs.length - (0 + 1))
              case measure => omega
              case rel => exact ⟨0 + 1, by omega, by omega, by go_num, by rw [HLf.out], by rw [HLf.out]; exact O6.out, B6.out⟩
          | true =>
            rw [hm] at f2
            have HLf : Hid (dueTo (rs.map Subtype.val) mode vs now (0 + 1) = (o ++ [v.seq], mk)) := by
              show _ = _
              rw [hstep.out]; unfold dueStep; rw [hany.out, hl]; simp [hm]
            clear hstep hany hl hd
            go_wp2_with (at_builtin; refine wpList_append_own _ rfl _ _ 36 rfl w5.heap.size 3 i0 (.int .i64 0) 1 8 Tryd.underlying36 hi hz0 hz1 hz2 rfl (by decide) _ _ _ rfl (O6.out.alloc _) ⟨w6.heap.size, 0, none⟩ 1 1 [.int .i64 v.seq] rfl rfl ?c1 ?c2 ?c3 ?c4 ?c5 ?_)
            case c1 => exact cell_one_new _ _ _
            case c2 => simp [Value.oneCell']
            case c3 => simp only [maxLen]; omega
            case c4 => omega
            case c5 => simp; omega
            intro v' w7 hown' hgrow _
            have O7 : Hid (w7.ownsRow w5.heap.size 3 1 v' (o ++ [v.seq]).length ((o ++ [v.seq]).map (Value.int .i64))) := by
              show World.ownsRow _ _ _ _ _ _ _
              simpa using hown'
            have B7 : Hid (Below w5.heap.size w5 w7) := by
              have hlt' := (O6.out.alloc (.cells #[.int .i64 v.seq] 3)).lt
              exact (below_alloc B6.out (Nat.le_refl _) _).grown hgrow (by simp; omega) (fun k hk => (hlt' k hk).1)
            clear hown' hgrow
            go_wp2
            go_roundg (vs.length - (0 + 1))
            case measure => omega
            case rel => exact ⟨0 + 1, by omega, by omega, by go_num, by rw [HLf.out], by rw [HLf.out]; exact O7.out, B7.out⟩
        · have h0' : ((i : Int) == 0) = false := beq_eq_false_iff_ne.2 (by omega)
          have HLf : Hid (dueTo (rs.map Subtype.val) mode vs now (i + 1) = (o ++ [v.seq], mk)) := by
            show _ = _
            rw [hstep.out]; unfold dueStep; rw [hany.out, hl]; simp [h0]
          clear hstep hany hl hd
          go_wp2_with (at_builtin; refine wpList_append_own _ rfl _ _ 36 rfl w5.heap.size 3 i0 (.int .i64 0) 1 8 Tryd.underlying36 hi hz0 hz1 hz2 rfl (by decide) _ _ _ rfl (O6.out.alloc _) ⟨w6.heap.size, 0, none⟩ 1 1 [.int .i64 v.seq] rfl rfl ?c1 ?c2 ?c3 ?c4 ?c5 ?_)
          case c1 => exact cell_one_new _ _ _
          case c2 => simp [Value.oneCell']
          case c3 => simp only [maxLen]; omega
          case c4 => omega
          case c5 => simp; omega
          intro v' w7 hown' hgrow _
          have O7 : Hid (w7.ownsRow w5.heap.size 3 1 v' (o ++ [v.seq]).length ((o ++ [v.seq]).map (Value.int .i64))) := by
            show World.ownsRow _ _ _ _ _ _ _
            simpa using hown'
          have B7 : Hid (Below w5.heap.size w5 w7) := by
            have hlt' := (O6.out.alloc (.cells #[.int .i64 v.seq] 3)).lt
            exact (below_alloc B6.out (Nat.le_refl _) _).grown hgrow (by simp; omega) (fun k hk => (hlt' k hk).1)
          clear hown' hgrow
          go_wp2
          go_roundg (vs.length - (i + 1))
          case measure => omega
          case rel => exact ⟨i + 1, by omega, by omega, by go_num, by rw [HLf.out], by rw [HLf.out]; exact O7.out, B7.out⟩
    · obtain rfl : i = vs.length := by omega
      go_wp2
      go_ret2
      rw [hdue.out]
      refine ⟨u12, rfl, ?_, BW5.out.trans (HB.out.mono (by omega))⟩
      refine ⟨HO.out.1, ?_⟩
      rcases HO.out.2 with h | ⟨g, cap, cur, hv, hg, r⟩
      · exact .inl h
      · exact .inr ⟨g, cap, cur, hv, by omega, r⟩

end Go.Proofs.YtnnfcbebjbfkoaaDoor
