/-
  The law CycleOff: the walk.
-/
import Derived.Test.YtnnfcbebjbfkoaaDoorCyOff1
import Derived.Test.YtnnfcbebjbfkoaaDoorCyEx
import Derived.Test.YtnnfcbebjbfkoaaDoorWords
import Derived.OneCell
namespace Go.Proofs.YtnnfcbebjbfkoaaDoor
open Go.RowKit

set_option maxHeartbeats 2000000 in
set_option maxRecDepth 100000 in
theorem off_walk (bk : BucketV) (ls : List RuleW) (rv : Value) (rows : List RowV) (rowv : Value) (ups : List UploadV) (upv : Value) (now : Int) (w : World) (hG : Glob w)
    (hmode : IntOK bk.mode) (hnow : IntOK now) (hrows : ∀ r ∈ rows, r.ver.OK) (hups : ∀ u ∈ ups, IntOK u.when_)
    (hL : RulesIn w rv (ls.map Subtype.val)) (hln : ls.length ≤ 1048576) (hR : RowsIn w rowv rows) (hU : UploadsIn w upv ups) (hm : ∀ s ∈ rows.map RowV.key ++ ups.map UploadV.key, s.size ≤ 1048576) :
    Calls Tryd.prog 5 #[.agg #[.string bk.name, .string bk.owner, .string bk.policy, .int .i64 bk.when_, .int .i64 bk.mode, rv], rowv, upv, .int .i64 now] w
      fun e w' => e = .returned (.bool true) ∧ Below w.heap.size w w' := by
  obtain ⟨i0, hi, hz0, hz1, hz2⟩ := info_rule
  obtain ⟨al, cl, rfl⟩ : ∃ a c, rv = .slice a ls.length c := by obtain ⟨a, c, h, _⟩ := hL; rw [List.length_map] at h; exact ⟨a, c, h⟩
  have HL := Lib.hid hL
  have HR := Lib.hid hR
  have HU := Lib.hid hU
  have HG := Lib.hid hG
  have HMO := Lib.hid hmode
  have HNO := Lib.hid hnow
  have HRO := Lib.hid hrows
  have HUO := Lib.hid hups
  have HM := Lib.hid hm
  clear hL hR hU hG hmode hnow hrows hups hm
  obtain ⟨S, hS⟩ : ∃ S, Hid (longer rows ups = S) := ⟨_, rfl⟩
  obtain ⟨nm, ow, po, wh, md⟩ := bk
  simp only at *
  go_enter Tryd.func5, Tryd.ntmps5
  go_wp2_with fail
  refine (ex_walk _ (HG.out.later (below_alloc (Below.refl _ _) (Nat.le_refl _) _))).mono ?_
  rintro e w1 ⟨rfl, hb1⟩
  have s1 := hb1.size
  simp at s1
  have B1 : Hid (Below w.heap.size w w1) := (below_alloc (Below.refl _ _) (Nat.le_refl _) _).trans (hb1.mono (by simp))
  have BX : Hid (w1.heap[w.heap.size]? = some (.cells #[.string nm, .string ow, .string po, .int .i64 wh, .int .i64 md, .slice al ls.length cl] 41 (0, 0))) := by
    show _ = _
    rw [hb1.block _ (by simp)]
    exact heap_alloc_new _ _
  clear hb1
  go_wp2
  have HOL := Lib.hid (offs_len S (ls.map Subtype.val))
  go_loopg [10, 11, 12] ls.length (fun gg s10 s11 _ wr => ∃ k : Nat, k ≤ ls.length ∧ ls.length - k ≤ gg ∧ s11 = .int .i64 k ∧ Hid (wr.ownsRow w1.heap.size 34 6 s10 k (flat ((offs S (ls.map Subtype.val)).take k))) ∧ Hid (Below w1.heap.size w1 wr))
  case atStart => exact ⟨0, Nat.zero_le _, by omega, rfl, World.ownsRow_nil _ _ _ _, (show Hid _ from Below.refl _ _)⟩
  case round =>
    obtain ⟨k, hkn, hgg, rfl, HO, HB⟩ := hrel
    have hbx : wr.cell? ⟨w.heap.size, 5, none⟩ = some (.slice al ls.length cl) := by
      rw [cell_of_heap (show wr.heap[w.heap.size]? = _ from (HB.out.block _ s1).trans BX.out)]
      rfl
    by_cases hlt : k < ls.length
    · have hltz : (k : Int) < (ls.length : Int) := by omega
      obtain ⟨r, HRK⟩ : ∃ r, Hid ((ls.map Subtype.val)[k]? = some r) := ⟨_, List.getElem?_eq_getElem (by simpa using hlt)⟩
      obtain ⟨b, off, rfl, hc⟩ : ∃ b off, al = some ⟨b, off, none⟩ ∧ ∀ j u, r.cells[j]? = some u → wr.cell? ⟨b, off + k * 6 + j, none⟩ = some u := by
        obtain ⟨a', c', h1, _, h2⟩ := HL.out
        obtain ⟨b, off, h3, h4⟩ := h2 (by simpa using (by omega : 0 < ls.length))
        simp only [Value.slice.injEq] at h1
        exact ⟨b, off, h1.1.trans h3, fun j u hj => cell_later (B1.out.trans (HB.out.mono B1.out.size)) (h4 k r HRK.out j u hj)⟩
      have HT := Lib.hid (offs_take (s := S) HRK.out)
      have sr := HB.out.size
      obtain ⟨rid, rpre, ron, rd, rn, ra⟩ := r
      have k0 := hc 0 _ rfl
      have k1 := hc 1 _ rfl
      have k2 := hc 2 _ rfl
      have k3 := hc 3 _ rfl
      have k4 := hc 4 _ rfl
      have k5 := hc 5 _ rfl
      simp only [Nat.add_zero] at k0
      have hbl := World.block_lt_of_cell? wr _ k0
      simp only at hbl
      clear hc
      by_cases hp : k % 2 = 0
      · have hpz : ((k : Int) % 2 == 0) = true := by rw [beq_iff_eq]; omega
        have HOF : Hid (offRule S k ⟨rid, rpre, ron, rd, rn, ra⟩ = ⟨rid, rpre, false, rd, rn, ra⟩) := by show _ = _; unfold offRule; rw [if_pos hp]
        rw [HOF.out] at HT
        clear hp
        go_wp2_with (at_builtin; refine wpList_append_own _ rfl _ _ 26 rfl w1.heap.size 34 i0 _ 6 64 Tryd.underlying26 hi hz0 hz1 hz2 rfl (by decide) _ _ _ rfl ((HO.out.alloc _).alloc _) ⟨wr.heap.size + 1, 0, none⟩ 1 1 [.string rid, .string rpre, .bool false, .int .i64 rd, .int .i64 rn, .int .i64 ra] rfl rfl ?c1 ?c2 ?c3 ?c4 ?c5 ?_)
        case c2 => simp [Value.oneCell']
        case c3 => simp only [maxLen]; omega
        case c4 => omega
        case c5 => omega
        intro v' w7 hown' hgrow _
        have O7 : Hid (w7.ownsRow w1.heap.size 34 6 v' (k + 1) (flat ((offs S (ls.map Subtype.val)).take (k + 1)))) := by
          show World.ownsRow _ _ _ _ _ _ _
          rw [HT.out, flat_snoc]
          exact hown'
        have B7 : Hid (Below w1.heap.size w1 w7) := by
          have hlt' := HO.out.lt
          refine (below_alloc (below_alloc HB.out (Nat.le_refl _) _) (Nat.le_refl _) _).grown hgrow (by first | (simp; done) | (simp; omega) | omega) (fun k hk => ?_)
          exact (hlt' k hk).1
        clear hown' hgrow
        go_wp2
        go_roundg (ls.length - (k + 1))
        case measure => omega
        case rel => exact ⟨k + 1, by omega, Nat.le_refl _, by go_num, O7, B7⟩
      · have hpz : ((k : Int) % 2 == 0) = false := by rw [beq_eq_false_iff_ne]; omega
        have HOF : Hid (offRule S k ⟨rid, rpre, ron, rd, rn, ra⟩ = ⟨rid, S, ron, rd, rn, ra⟩) := by show _ = _; unfold offRule; rw [if_neg hp]
        rw [HOF.out] at HT
        clear hp
        have BA : Hid (Below w.heap.size w (wr.alloc (.cells #[.string rid, .string rpre, .bool ron, .int .i64 rd, .int .i64 rn, .int .i64 ra] 34))) := below_alloc (B1.out.trans (HB.out.mono B1.out.size)) (Nat.le_refl _) _
        go_wp2_with fail
        refine (longer_walk rows ups rowv upv _ (HR.out.later BA.out) (HU.out.later BA.out) HM.out).mono ?_
        rw [hS.out]
        rintro e w3 ⟨rfl, hb3⟩
        have s3 := hb3.size
        simp at s3
        have hh : w3.heap[wr.heap.size]? = some (.cells #[.string rid, .string rpre, .bool ron, .int .i64 rd, .int .i64 rn, .int .i64 ra] 34 (0, 0)) := (hb3.block _ (by simp)).trans (heap_alloc_new _ _)
        have q0 := cell_of_heap (x := 0) hh
        have q1 := cell_of_heap (x := 1) hh
        have q2 := cell_of_heap (x := 2) hh
        have q3 := cell_of_heap (x := 3) hh
        have q4 := cell_of_heap (x := 4) hh
        have q5 := cell_of_heap (x := 5) hh
        have fz := free_of_heap (x := 1) hh
        have O3 : Hid (w3.ownsRow w1.heap.size 34 6 u10 k (flat ((offs S (ls.map Subtype.val)).take k))) := by
          refine (HO.out.alloc _).kept (row := none) ⟨hb3.os, hb3.tape, hb3.output, hb3.size, fun k hk _ => hb3.block k hk⟩ ?_
          cases Value.ownBlock u10 <;> simp
        have HNB : Hid (∀ g, Value.ownBlock u10 = some g → g ≠ wr.heap.size) := fun g hg => by
          have := (HO.out.lt g hg).2
          omega
        have O4 : Hid ((w3.setCell ⟨wr.heap.size, 1, none⟩ (.string S)).ownsRow w1.heap.size 34 6 u10 k (flat ((offs S (ls.map Subtype.val)).take k))) := ownsRow_setCell_other O3.out (fun he => HNB.out _ he rfl) _
        have B3 : Hid (Below w1.heap.size w1 w3) := (below_alloc HB.out (Nat.le_refl _) _).trans (hb3.mono (by simp; omega))
        clear hb3 hh BA k0 k1 k2 k3 k4 k5
        simp at q0 q1 q2 q3 q4 q5
        go_wp2_with (at_builtin; refine wpList_append_own _ rfl _ _ 26 rfl w1.heap.size 34 i0 _ 6 64 Tryd.underlying26 hi hz0 hz1 hz2 rfl (by decide) _ _ _ rfl (O4.out.alloc _) ⟨w3.heap.size, 0, none⟩ 1 1 [.string rid, .string S, .bool ron, .int .i64 rd, .int .i64 rn, .int .i64 ra] rfl rfl ?d1 ?d2 ?d3 ?d4 ?d5 ?_)
        case d1 =>
          intro j u hu
          have := cells_new (w3.setCell ⟨wr.heap.size, 1, none⟩ (.string S)) #[.string rid, .string S, .bool ron, .int .i64 rd, .int .i64 rn, .int .i64 ra] 34 j u hu
          rwa [World.size_setCell] at this
        case d2 => simp [Value.oneCell']
        case d3 => simp only [maxLen]; omega
        case d4 => omega
        case d5 => simp; omega
        intro v' w7 hown' hgrow _
        have O7 : Hid (w7.ownsRow w1.heap.size 34 6 v' (k + 1) (flat ((offs S (ls.map Subtype.val)).take (k + 1)))) := by
          show World.ownsRow _ _ _ _ _ _ _
          rw [HT.out, flat_snoc]
          exact hown'
        have B7 : Hid (Below w1.heap.size w1 w7) := by
          have hlt' := O3.out.lt
          refine (below_alloc (B3.out.setCell (by simp; omega) _) (Nat.le_refl _) _).grown hgrow (by first | (simp; done) | (simp; omega) | omega) (fun k hk => ?_)
          exact (hlt' k hk).1
        clear hown' hgrow
        go_wp2
        go_roundg (ls.length - (k + 1))
        case measure => omega
        case rel => exact ⟨k + 1, by omega, Nat.le_refl _, by go_num, O7, B7⟩
    · obtain rfl : k = ls.length := by omega
      obtain ⟨ls2, hls2⟩ : ∃ ls2 : List RuleW, ls2.map Subtype.val = offs S (ls.map Subtype.val) := ⟨(offs S (ls.map Subtype.val)).pmap Subtype.mk (offs_ok (fun r hr => by obtain ⟨r', _, rfl⟩ := List.mem_map.1 hr; exact r'.property)), by simp [List.map_pmap]⟩
      have HL2 := Lib.hid hls2
      have hlen2 : ls2.length = ls.length := by have := congrArg List.length hls2; simpa [offs_len] using this
      have hall : (offs S (ls.map Subtype.val)).take ls.length = offs S (ls.map Subtype.val) := List.take_of_length_le (by rw [offs_len]; simp)
      rw [hall] at HO
      clear hall hls2
      have hRI := RulesIn.of_own (l := offs S (ls.map Subtype.val)) (by rw [offs_len, List.length_map]; exact HO.out) (by rw [offs_len, List.length_map]; omega)
      obtain ⟨a10, c10, rfl⟩ : ∃ a c, u10 = .slice a ls.length c := by obtain ⟨a, c, h, _⟩ := hRI; rw [offs_len, List.length_map] at h; exact ⟨a, c, h⟩
      have hh : wr.heap[w.heap.size]? = some (.cells #[.string nm, .string ow, .string po, .int .i64 wh, .int .i64 md, .slice al ls.length cl] 41 (0, 0)) := (HB.out.block _ s1).trans BX.out
      have q0 := cell_of_heap (x := 0) hh
      have q1 := cell_of_heap (x := 1) hh
      have q2 := cell_of_heap (x := 2) hh
      have q3 := cell_of_heap (x := 3) hh
      have q4 := cell_of_heap (x := 4) hh
      have fz := free_of_heap (x := 5) hh
      have BW : Hid (Below w.heap.size w (wr.setCell ⟨w.heap.size, 5, none⟩ (.slice a10 ls.length c10))) := (B1.out.trans (HB.out.mono B1.out.size)).setCell (Nat.le_refl _) _
      have RI : Hid (RulesIn (wr.setCell ⟨w.heap.size, 5, none⟩ (.slice a10 ls.length c10)) (.slice a10 ls.length c10) (ls2.map Subtype.val)) := by
        rw [HL2.out]
        obtain ⟨a', c', h1, h2, h3⟩ := hRI
        refine ⟨a', c', h1, h2, fun hp => ?_⟩
        obtain ⟨b', off', h4, h5⟩ := h3 hp
        refine ⟨b', off', h4, fun i r hr j u hu => ?_⟩
        rw [World.cell?_setCell_other]
        · exact h5 i r hr j u hu
        · intro he
          rw [h4] at h1
          simp only [Value.slice.injEq] at h1
          have := (HO.out.lt b' (by rw [h1.1]; rfl)).1
          simp only [Addr.mk.injEq] at he
          omega
      clear hh hRI
      simp at q0 q1 q2 q3 q4
      go_wp2_with fail
      refine (next_walk ⟨nm, ow, po, wh, md⟩ ls2 (.slice a10 ls.length c10) rows rowv ups upv now _ HMO.out HNO.out HRO.out HUO.out (HG.out.later BW.out).tz RI.out (HR.out.later BW.out) (HU.out.later BW.out)).mono ?_
      rw [show nextOf (ls2.map Subtype.val) md nm rows ups now = none from by rw [HL2.out, ← hS.out]; exact off_none _ _ _ _ _ _]
      rintro e w4 ⟨rfl, hb4⟩
      have B4 : Hid (Below w.heap.size w w4) := BW.out.trans (hb4.mono BW.out.size)
      clear hb4
      simp only [opV]
      go_wp2_with (refine wpList_store_row (by rfl) 47 _ _ (by rfl) w4.heap.size _ (by rfl) (by rfl) 47 _ (by exact heap_alloc_new _ _) (by kernel_rfl) (by kernel_rfl) (by kernel_rfl) ?_; rw [setRow_alloc _ _ _ _ _ rfl])
      go_ret
      exact ⟨rfl, below_alloc B4.out (Nat.le_refl _) _⟩

end Go.Proofs.YtnnfcbebjbfkoaaDoor
