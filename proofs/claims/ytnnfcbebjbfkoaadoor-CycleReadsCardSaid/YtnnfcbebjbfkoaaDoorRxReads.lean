/-
  The law CycleReads: the walk.
-/
import Derived.Test.YtnnfcbebjbfkoaaDoorCyEx
import Derived.Test.YtnnfcbebjbfkoaaDoorRxRead
import Derived.Test.YtnnfcbebjbfkoaaDoorRxSame
import Derived.Test.YtnnfcbebjbfkoaaDoorRxTell
import Derived.Test.YtnnfcbebjbfkoaaDoorWords
namespace Go.Proofs.YtnnfcbebjbfkoaaDoor
open Go.RowKit Go.PlainAid

def codeOf (b : Bool) : Int := if b then 0 else 89

theorem RulesIn.reads {w : World} {a : Option Addr} {n c : Nat} {l : List RuleV} (h : RulesIn w (.slice a n c) l) : Reads w w.heap.size 6 a l.length (flat l) := by
  obtain ⟨a', c', e, _, h⟩ := h
  obtain ⟨rfl, rfl, rfl⟩ : a = a' ∧ n = l.length ∧ c = c' := by simpa using e
  refine ⟨flat_length l, fun hn => ?_⟩
  obtain ⟨b, off, rfl, hc⟩ := h hn
  obtain ⟨r, hr⟩ : ∃ r, l[0]? = some r := ⟨_, List.getElem?_eq_getElem hn⟩
  refine ⟨_, rfl, World.block_lt_of_cell? w _ (hc 0 r hr 0 _ rfl), fun j u hu => ?_⟩
  have hj := (List.getElem?_eq_some_iff.1 hu).1
  rw [flat_length] at hj
  obtain ⟨r, hr⟩ : ∃ r, l[j / 6]? = some r := ⟨_, List.getElem?_eq_getElem (by omega)⟩
  have h1 := flat_get l _ r hr (j % 6) (by omega)
  rw [show j / 6 * 6 + j % 6 = j from by omega, hu] at h1
  have := hc _ r hr (j % 6) u h1.symm
  rw [show off + j / 6 * 6 + j % 6 = off + j from by omega] at this
  rw [Addr.add_lit]
  exact this

theorem rulesIn_none (w : World) : RulesIn w (.slice none 0 0) [] := ⟨none, 0, rfl, by simp, fun h => by simp at h⟩

/-- the program's Read, its answer in parts -/
theorem read_parts (t : Tree) (a : Option Addr) (c : Nat) (w : World) (hG : Glob w) (hl : t.kids.length ≤ 2513169434843) (hk : KidsIn w t.kids a 0) :
    Calls Tryd.prog 8 #[elemV t a c] w fun e w' => ∃ a1 c1, e = .returned (.tuple #[.slice a1 ((readOf t).getD []).length c1, .int .i64 (codeOf (readOf t).isSome)]) ∧ RulesIn w' (.slice a1 ((readOf t).getD []).length c1) ((readOf t).getD []) ∧ Below w.heap.size w w' := by
  refine (read_any t a c w hG hl hk).mono ?_
  intro e w' h
  cases ho : readOf t with
  | none =>
    rw [ho] at h
    obtain ⟨rfl, hb⟩ := h
    exact ⟨none, 0, rfl, rulesIn_none _, hb⟩
  | some l =>
    rw [ho] at h
    obtain ⟨⟨v, rfl, hown⟩, hb⟩ := h
    have hle := (read_tell t l ho).2.2.1
    have RI := RulesIn.of_own hown (by omega)
    obtain ⟨a1, c1, rfl, _⟩ := id RI
    exact ⟨a1, c1, rfl, RI, hb⟩

/-- the reference's Read, its answer in parts -/
theorem rread_parts (t : Tree) (a : Option Addr) (c : Nat) (w : World) (hl : t.kids.length ≤ 2513169434843) (hk : KidsIn w t.kids a 0) :
    Calls Tryd.prog 14 #[elemV t a c] w fun e w' => ∃ a1 c1, e = .returned (.tuple #[.slice a1 ((readOf t).getD []).length c1, .bool (readOf t).isSome]) ∧ RulesIn w' (.slice a1 ((readOf t).getD []).length c1) ((readOf t).getD []) ∧ Below w.heap.size w w' := by
  refine (rread_any t a c w hl hk).mono ?_
  intro e w' h
  cases ho : readOf t with
  | none =>
    rw [ho] at h
    obtain ⟨rfl, hb⟩ := h
    exact ⟨none, 0, rfl, rulesIn_none _, hb⟩
  | some l =>
    rw [ho] at h
    obtain ⟨⟨v, rfl, hown⟩, hb⟩ := h
    have hle := (read_tell t l ho).2.2.1
    have RI := RulesIn.of_own hown (by omega)
    obtain ⟨a1, c1, rfl, _⟩ := id RI
    exact ⟨a1, c1, rfl, RI, hb⟩

set_option maxHeartbeats 4000000 in
set_option maxRecDepth 100000 in
theorem reads_walk (t : Tree) (a : Option Addr) (c : Nat) (l : List RuleV) (lv : Value) (w : World) (hG : Glob w) (hl : t.kids.length ≤ 2513169434843) (hk : KidsIn w t.kids a 0)
    (hL : RulesIn w lv l) (hok : ∀ r ∈ l, IntOK r.days ∧ IntOK r.nonc ∧ IntOK r.abort) (hsz : ∀ r ∈ l, r.id.size ≤ maxRead ∧ r.pre.size ≤ maxRead) :
    Calls Tryd.prog 6 #[elemV t a c, lv] w fun e w' => e = .returned (.bool true) ∧ Below w.heap.size w w' := by
  have HG := Lib.hid hG
  have HK := Lib.hid hk
  have HL := Lib.hid hl
  have HR := Lib.hid (fun w hG hk => read_parts t a c w hG hl hk)
  have HRR := Lib.hid (fun w hk => rread_parts t a c w hl hk)
  have HOK := Lib.hid hok
  have HSZ := Lib.hid hsz
  have HLV := Lib.hid hL
  obtain ⟨al, cl, rfl, hll, _⟩ := id hL
  obtain ⟨L0, hL0⟩ : ∃ o, Hid ((readOf t).getD [] = o) := ⟨_, rfl⟩
  obtain ⟨ok, hok0⟩ : ∃ o, Hid ((readOf t).isSome = o) := ⟨_, rfl⟩
  obtain ⟨i0, hi, hz0, hz1, hz2⟩ := info_rule
  rw [hL0.out, hok0.out] at HR HRR
  obtain ⟨n, tx, ks⟩ := t
  simp only [Tree.name, Tree.text, Tree.kids, elemV] at *
  clear hG hk hl hok hsz hL
  go_enter Tryd.func6, Tryd.ntmps6
  go_wp2_with fail
  refine (ex_walk _ (HG.out.later (below_alloc (Below.refl _ _) (Nat.le_refl _) _))).mono ?_
  rintro e w1 ⟨rfl, hb1⟩
  have s1 := hb1.size
  simp at s1
  have B1 : Hid (Below w.heap.size w w1) := (below_alloc (Below.refl _ _) (Nat.le_refl _) _).trans (hb1.mono (by simp))
  have D : Hid (∀ W, Below w1.heap.size w1 W → W.cell? ⟨w.heap.size, 0, none⟩ = some (.string n) ∧ W.cell? ⟨w.heap.size, 1, none⟩ = some (.string tx) ∧ W.cell? ⟨w.heap.size, 2, none⟩ = some (.slice a ks.length c)) :=
    fun W hW => ⟨cell_later hW (cell_later hb1 (cell_new _ _ _ _ _ _ rfl rfl)), cell_later hW (cell_later hb1 (cell_new _ _ _ _ _ _ rfl rfl)), cell_later hW (cell_later hb1 (cell_new _ _ _ _ _ _ rfl rfl))⟩
  clear hb1
  obtain ⟨d0, d1, d2⟩ := D.out w1 (Below.refl _ _)
  go_wp2_with fail
  refine (HR.out _ (HG.out.later B1.out) (KidsIn.later B1.out _ _ _ HK.out)).mono ?_
  rintro e w2 ⟨a2, c2, rfl, hr2, hb2⟩
  have R2 := Lib.hid hr2
  have W2 := Lib.hid hb2
  have B2 : Hid (Below w.heap.size w w2) := B1.out.trans (W2.out.mono B1.out.size)
  clear hr2 hb2 d0 d1 d2
  obtain ⟨d0, d1, d2⟩ := D.out w2 W2.out
  go_wp2_with fail
  refine (HRR.out _ (KidsIn.later B2.out _ _ _ HK.out)).mono ?_
  rintro e w3 ⟨a3, c3, rfl, hr3, hb3⟩
  have R3 := Lib.hid hr3
  have Q3 := Lib.hid (R2.out.later hb3)
  have B3 : Hid (Below w.heap.size w w3) := B2.out.trans (hb3.mono B2.out.size)
  clear hr3 hb3 d0 d1 d2
  go_wp2_with fail
  refine (same_any L0 _ _ _ Q3.out R3.out).mono ?_
  rintro e w4 ⟨rfl, hb4⟩
  have B4 : Hid (Below w.heap.size w w4) := B3.out.trans (hb4.mono B3.out.size)
  clear hb4
  obtain ⟨W4, hW4⟩ : ∃ W, Hid (W = w4) := ⟨_, rfl⟩
  have RR := Lib.hid (HLV.out.later B4.out).reads
  go_wp2_with (at_builtin; refine wpList_append_any _ rfl _ _ 26 rfl w4.heap.size 34 i0 _ 6 64 Tryd.underlying26 hi hz0 hz1 hz2 rfl (by decide) (.slice none 0 0) 0 [] rfl (World.ownsRow_nil _ _ _ _) w4.heap.size al l.length cl (flat l) rfl RR.out (flat_one l) ?c1 ?c2 (Nat.le_refl _) ?_)
  case c1 => simp only [maxLen]; omega
  case c2 => omega
  intro v5 w5 hown5 hgr5 _
  have hb5 : Below w4.heap.size w4 w5 := (Below.refl _ _).grown hgr5 (Nat.le_refl _) (fun k hk => by cases hk)
  have B5 : Hid (Below w.heap.size w w5) := B4.out.trans (hb5.mono B4.out.size)
  have M5 : Hid (RulesIn w5 v5 l) := RulesIn.of_own (by simpa using hown5) hll
  obtain ⟨a5, c5, rfl, _⟩ := id M5.out
  clear hown5 hgr5 hb5
  go_wp2_with fail
  refine (tell_walk l _ _ (HG.out.later B5.out) M5.out HOK.out HSZ.out hll).mono ?_
  rintro e w6 ⟨x6, y6, z6, rfl, ht6, hb6⟩
  have B6 : Hid (Below w.heap.size w w6) := B5.out.trans (hb6.mono B5.out.size)
  have M6 := Lib.hid (M5.out.later hb6)
  obtain ⟨r, hr⟩ : ∃ r, Hid (rightB (tellT l) = r) := ⟨_, rfl⟩
  obtain ⟨T, hT⟩ : ∃ T, Hid (tellT l = T) := ⟨_, rfl⟩
  have HTL := Lib.hid (fun W (hW : Below w.heap.size w W) => rtell_walk l (.slice al l.length cl) W (HLV.out.later hW) HOK.out HSZ.out hll)
  rw [hT.out] at ht6 HTL hr
  obtain ⟨Tn, Tt, Tk⟩ := T
  obtain ⟨rfl, rfl, _, _, _, a6, c6, rfl, hk6⟩ := ht6.cells
  have E6 := Lib.hid (ElemAt.mk ‹_› ‹_› ‹_› hk6)
  simp only [Tree.name, Tree.text, Tree.kids] at *
  clear hb6 ht6 hk6
  go_wp2_with fail
  have hs6 := B6.out.size
  obtain ⟨w7, hw7⟩ : ∃ w7 : World, w7 = w6.alloc (.cells #[.string Tn, .string Tt, .slice a6 Tk.length c6] 24) := ⟨_, rfl⟩
  have v0 : w7.cell? ⟨w6.heap.size, 0, none⟩ = some (.string Tn) := by rw [hw7]; exact cell_new _ _ _ _ _ _ rfl rfl
  have v1 : w7.cell? ⟨w6.heap.size, 1, none⟩ = some (.string Tt) := by rw [hw7]; exact cell_new _ _ _ _ _ _ rfl rfl
  have v2 : w7.cell? ⟨w6.heap.size, 2, none⟩ = some (.slice a6 Tk.length c6) := by rw [hw7]; exact cell_new _ _ _ _ _ _ rfl rfl
  have hb7 : Below w6.heap.size w6 w7 := by rw [hw7]; exact below_alloc (Below.refl _ _) (Nat.le_refl _) _
  rw [← hw7]
  have B7 : Hid (Below w.heap.size w w7) := B6.out.trans (hb7.mono B6.out.size)
  have E7 := Lib.hid (E6.out.later hb7)
  have M7 := Lib.hid (M6.out.later hb7)
  clear hw7 hb7 hs6
  generalize w6.heap.size = g6 at *
  go_cut [13] (fun s13 wx => s13 = .bool r ∧ Hid (Below w7.heap.size w7 wx))
  case first =>
    refine wp_region_held_drew (S := (fun w' => Below w7.heap.size w7 w')) (by kernel_rfl) (Below.refl _ _).drew (fun hS0 => ?_)
    refine wpAnyH_take (i := 0) (oi := { dst := some 35, op := _, type := _, pos := _, after := _, guard := _ }) (v := ?_) rfl (by kernel_rfl) (by kernel_rfl) (by kernel_rfl) (fun _ _ _ h => h) (Or.inl ⟨by kernel_rfl, ?_⟩) (by assumption) ?_
    rotate_left
    · (intro w hSw; (try dsimp only at hSw); have q0 := cell_later hSw v0; have q1 := cell_later hSw v1; have q2 := cell_later hSw v2; go_simp); all_goals (with_reducible rfl)
    try simp only [Act.put, List.setIfInBounds_toArray, List.set_cons_zero, List.set_cons_succ]
    refine wpAnyH_take (i := 1) (oi := { dst := some 36, op := _, type := _, pos := _, after := _, guard := _ }) (v := ?_) rfl (by kernel_rfl) (by kernel_rfl) (by kernel_rfl) (fun _ _ _ h => h) (Or.inl ⟨by kernel_rfl, ?_⟩) (by assumption) ?_
    rotate_left
    · (intro w hSw; (try dsimp only at hSw); go_simp); all_goals (with_reducible rfl)
    try simp only [Act.put, List.setIfInBounds_toArray, List.set_cons_zero, List.set_cons_succ]
    refine wpAnyH_ready (rs := [2]) (by kernel_rfl) (by simp) ?_
    refine AllReadyH.cons rfl (fun K hK => ?_) AllReadyH.nil
    rw [if_pos (by kernel_rfl)]
    go_wp2_with fail
    refine (HTL.out _ (B7.out.trans (hS0.mono B7.out.size))).mono ?_
    rintro e w8 ⟨x8, y8, z8, rfl, ht8, hb8⟩
    obtain ⟨rfl, rfl, _, _, _, a8, c8, rfl, hk8⟩ := ht8.cells
    have E8 := Lib.hid (ElemAt.mk ‹_› ‹_› ‹_› hk8)
    simp only [Tree.name, Tree.text, Tree.kids] at *
    go_wp2_with fail
    refine hK.out _ w8 (hS0.trans (hb8.mono hS0.size)) (fun hS1 => ?_)
    clear hK K hb8 ht8 hk8
    try simp only [Act.put, List.setIfInBounds_toArray, List.set_cons_zero, List.set_cons_succ]
    refine wpAnyH_ready (rs := [3]) (by kernel_rfl) (by simp) ?_
    refine AllReadyH.cons rfl (fun K hK => ?_) AllReadyH.nil
    rw [if_pos (by kernel_rfl)]
    go_wp2_with fail
    refine (Same_any (.node Tn Tt Tk) a6 a8 c6 c8 _ (E7.out.later hS1) E8.out).mono ?_
    rw [hr.out]
    rintro e w9 ⟨rfl, hb9⟩
    go_wp2_with fail
    refine hK.out _ w9 (hS1.trans (hb9.mono hS1.size)) (fun hS2 => ?_)
    clear hK K hb9
    try simp only [Act.put, List.setIfInBounds_toArray, List.set_cons_zero, List.set_cons_succ]
    refine wpAnyH_take (i := 4) (oi := { dst := some 13, op := _, type := _, pos := _, after := _, guard := _ }) (v := ?_) rfl (by kernel_rfl) (by kernel_rfl) (by kernel_rfl) (fun _ _ _ h => h) (Or.inl ⟨by kernel_rfl, ?_⟩) (by assumption) ?_
    rotate_left
    · (intro w hSw; (try dsimp only at hSw); go_simp); all_goals (with_reducible rfl)
    try simp only [Act.put, List.setIfInBounds_toArray, List.set_cons_zero, List.set_cons_succ]
    refine wpAnyH_done (by kernel_rfl) ?_ _
    go_wp2
    go_meet
    case rel => exact ⟨rfl, hS2⟩
  case rest =>
    obtain ⟨rfl, HX⟩ := hcut
    obtain ⟨wx, rfl⟩ : ∃ wx : World, wx = wc := ⟨_, rfl⟩
    have BX : Hid (Below w.heap.size w wx) := B7.out.trans (HX.out.mono B7.out.size)
    have MX := Lib.hid (M7.out.later HX.out)
    clear v0 v1 v2
    go_wp2_with fail
    refine (HTL.out _ BX.out).mono ?_
    rintro e w8 ⟨x8, y8, z8, rfl, ht8, hb8⟩
    have B8 : Hid (Below w.heap.size w w8) := BX.out.trans (hb8.mono BX.out.size)
    have M8 := Lib.hid (MX.out.later hb8)
    obtain ⟨rfl, rfl, _, _, _, a8, c8, rfl, hk8⟩ := ht8.cells
    have E8 := Lib.hid (ElemAt.mk ‹_› ‹_› ‹_› hk8)
    simp only [Tree.name, Tree.text, Tree.kids] at *
    clear ht8 hk8 hb8
    go_wp2_with fail
    refine (Known_any (.node Tn Tt Tk) a8 c8 _ E8.out).mono ?_
    rw [hr.out]
    rintro e w9 ⟨rfl, hb9⟩
    have B9 : Hid (Below w.heap.size w w9) := B8.out.trans (hb9.mono B8.out.size)
    have M9 := Lib.hid (M8.out.later hb9)
    clear hb9
    go_wp2_with fail
    refine (same_any l _ _ _ M9.out (HLV.out.later B9.out)).mono ?_
    rintro e w10 ⟨rfl, hb10⟩
    have B10 : Hid (Below w.heap.size w w10) := B9.out.trans (hb10.mono B9.out.size)
    clear hb10
    cases ok <;> cases r
    all_goals
      simp only [codeOf, if_true, if_false, Bool.false_eq_true]
      go_wp2
      go_ret
      exact ⟨rfl, B10.out⟩

end Go.Proofs.YtnnfcbebjbfkoaaDoor
