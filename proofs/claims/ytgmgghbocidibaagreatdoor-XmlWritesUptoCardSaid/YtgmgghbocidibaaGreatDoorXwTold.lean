/-
  storehouseref15.told: an element, written behind what was there. (Printed by wip/gen/xwtold.py.)
-/
import Derived.Test.YtgmgghbocidibaaGreatDoorSm35
namespace Go.Proofs.YtgmgghbocidibaaGreatDoor.Ref
open Go.RowKit Go.Lib Go.PlainAid

/-- the row that is written to -/
structure WrAt (w0 w : World) (v : Value) (l : Bs) : Prop where
  below : Below w0.heap.size w0 w
  own : OwnX w w0.heap.size v l
theorem WrAt.later {w0 w w' : World} {v : Value} {l : Bs} (h : WrAt w0 w v l) (hb : Below w.heap.size w w') : WrAt w0 w' v l :=
  ⟨h.below.trans (hb.mono h.below.size), h.own.keep fun k hk => hb.block k (h.own.lt k hk).2⟩
theorem WrAt.form {w0 w : World} {v : Value} {l : Bs} (h : WrAt w0 w v l) : ∃ p c, v = .slice p l.length c := h.own.form
/-- what may have been written to -/
def WrM (v : Value) (k : Nat) : Prop := some k = v.ownBlock
/-- in the midst of told -/
structure WrIn (w0 w W : World) (v0 v : Value) (l : Bs) (es : Array Value) : Prop where
  at_ : WrAt w0 W v l
  box : W.heap[w.heap.size]? = some (.cells es 24 (0, 0))
  chg : Chg w W (WrM v0)
  next : Next w v0 v
theorem WrIn.later {w0 w W W' : World} {v0 v : Value} {l : Bs} {es : Array Value} (h : WrIn w0 w W v0 v l es) (hb : Below W.heap.size W W') : WrIn w0 w W' v0 v l es :=
  ⟨h.at_.later hb, (hb.block _ (Array.getElem?_eq_some_iff.1 h.box).1).trans h.box, h.chg.below_on hb, h.next⟩
/-- a change of what may be written to -/
theorem WrIn.on {w0 w W W' : World} {v0 v v' : Value} {l l' : Bs} {es : Array Value} (h : WrIn w0 w W v0 v l es) (ha : WrAt w0 W' v' l') (hc : Chg W W' (WrM v)) (hn : Next W v v') : WrIn w0 w W' v0 v' l' es := by
  refine ⟨ha, (hc.block _ (Array.getElem?_eq_some_iff.1 h.box).1 ?_).trans h.box, h.chg.trans' hc ?_, ?_⟩
  · intro e
    exact h.at_.own.not_elem h.box e.symm
  · intro k hk e
    rcases h.next with e2 | e2
    · exact e.trans e2
    · have := e2 k e.symm; omega
  · have hs := h.chg.size
    rcases hn with e | e
    · rcases h.next with e2 | e2
      · exact .inl (e.trans e2)
      · exact .inr fun g hg => e2 g (e ▸ hg)
    · exact .inr fun g hg => Nat.le_trans hs (e g hg)
theorem WrIn.app {w0 w W W' : World} {v0 v v' : Value} {l s : Bs} {es : Array Value} (h : WrIn w0 w W v0 v l es) (ho : OwnX W' w0.heap.size v' (l ++ s)) (hg : W.grownBy W' v.ownBlock) (hn : Next W v v') : WrIn w0 w W' v0 v' (l ++ s) es := by
  have hc : Chg W W' (fun k => some k = v.ownBlock) := Chg.grown hg
  exact h.on ⟨h.at_.below.trans (hc.below h.at_.below.size fun k e => (h.at_.own.lt k e.symm).1), ho⟩ hc hn
/-- how told ends -/
def WrOut (w0 w : World) (v : Value) (l : Bs) (e : Ending) (w' : World) : Prop := ∃ v', e = .returned v' ∧ WrAt w0 w' v' l ∧ Chg w w' (WrM v) ∧ Next w v v'
theorem WrIn.out {w0 w W : World} {v0 v : Value} {l : Bs} {es : Array Value} (h : WrIn w0 w W v0 v l es) : WrOut w0 w v0 l (.returned v) W := ⟨v, rfl, h.at_, h.chg, h.next⟩
theorem WrIn.called {w0 w W W' : World} {v0 v : Value} {l l' : Bs} {es : Array Value} (h : WrIn w0 w W v0 v l es) {e : Ending} (ho : WrOut w0 W v l' e W') : ∃ v', e = .returned v' ∧ WrIn w0 w W' v0 v' l' es := by
  obtain ⟨v', rfl, h1, h2, h3⟩ := ho
  exact ⟨v', rfl, h.on h1 h2 h3⟩
def WriteC (t : Tree) : Prop := ∀ (w0 w : World) (v : Value) (l : Bs) (a : Option Addr) (c : Nat), ElemIn w0 t a c → SmT t → l.length + (writeL t).length ≤ 70368744177664 → WrAt w0 w v l →
  Calls Tryz.prog 32 #[v, .agg (elC t a c)] w (WrOut w0 w v (wrT t l))

set_option maxHeartbeats 4000000 in
set_option maxRecDepth 100000 in
theorem told_any : ∀ t, WriteC t := by
  apply treeInd
  intro n t ks ih w0 w v l a c hT hS hL hW
  obtain ⟨n, rfl⟩ : ∃ l : Bs, n = ⟨l.toArray⟩ := ⟨n.data.toList, by cases n; rfl⟩
  obtain ⟨t, rfl⟩ : ∃ l : Bs, t = ⟨l.toArray⟩ := ⟨t.data.toList, by cases t; rfl⟩
  obtain ⟨-, -, hn, ht, hkl, a', c', he, hK⟩ := hT.cells
  obtain ⟨i0, hi, hz0, hz1, hz2⟩ := info_byte
  simp only [Tree.name, Tree.text, Tree.kids] at hn ht hkl he hK ⊢
  injection he with e1 _ e3
  subst e1 e3
  have hS' := hS
  unfold SmT at hS'
  obtain ⟨hSn, hSt, hSk⟩ := hS'
  have hSn : n.length ≤ 4000000 := hSn
  have hSt : t.length ≤ 4000000 := hSt
  obtain ⟨p, cp, rfl⟩ := hW.form
  have HIH := Lib.hid ih
  have HK := Lib.hid hK
  have HSK := Lib.hid (SmKs.at hSk)
  have HL := Lib.hid hL
  unfold elC
  simp only [Tree.name, Tree.text, Tree.kids]
  obtain ⟨W0, hw0⟩ : ∃ W0, w.alloc (.cells #[.string ⟨n.toArray⟩, .string ⟨t.toArray⟩, .slice a ks.length c] 24) = W0 := ⟨_, rfl⟩
  have B0 : Below w.heap.size w W0 := by rw [← hw0]; exact below_alloc (Below.refl _ _) (Nat.le_refl _) _
  have X0 : Hid (WrIn w0 w W0 (.slice p l.length cp) (.slice p l.length cp) l #[.string ⟨n.toArray⟩, .string ⟨t.toArray⟩, .slice a ks.length c]) :=
    ⟨hW.later B0, by rw [← hw0]; exact heap_alloc_new _ _, Chg.of_below B0, .inl rfl⟩
  have HW1 := Lib.hid (show 1000000 < l.length → wrT (.node ⟨n.toArray⟩ ⟨t.toArray⟩ ks) l = l from fun h => by unfold wrT; exact if_pos h)
  have HW2 := Lib.hid (show ¬ 1000000 < l.length → t = [] ∧ ks = [] → wrT (.node ⟨n.toArray⟩ ⟨t.toArray⟩ ks) l = l ++ (60 :: n ++ [47, 62]) from fun h h2 => by unfold wrT; rw [if_neg h, if_pos h2])
  have HW3 := Lib.hid (show ¬ 1000000 < l.length → ¬ (t = [] ∧ ks = []) → wrT (.node ⟨n.toArray⟩ ⟨t.toArray⟩ ks) l = wrKs ks (l ++ (60 :: n ++ 62 :: escL t)) ++ (60 :: 47 :: n ++ [62]) from fun h h2 => by unfold wrT; rw [if_neg h, if_neg h2])
  have k0 : W0.cell? ⟨w.heap.size, 0, none⟩ = some (.string ⟨n.toArray⟩) := cell_at X0.out.box rfl
  have k1 : W0.cell? ⟨w.heap.size, 1, none⟩ = some (.string ⟨t.toArray⟩) := cell_at X0.out.box rfl
  have k2 : W0.cell? ⟨w.heap.size, 2, none⟩ = some (.slice a ks.length c) := cell_at X0.out.box rfl
  clear hT hK ih hS hSk hW B0 hL
  go_enter Tryz.func32, Tryz.ntmps32
  by_cases g1 : 1000000 < l.length
  · have g1z : (1000000 : Int) < (l.length : Int) := by omega
    have HE := Lib.hid (HW1.out g1)
    go_wp2_with fail
    go_ret
    rw [HE.out]
    exact X0.out.out
  have g1z : ¬ (1000000 : Int) < (l.length : Int) := by omega
  clear HW1
  by_cases g2 : t = [] ∧ ks = []
  · obtain ⟨rfl, rfl⟩ := g2
    have HE := Lib.hid (HW2.out g1 ⟨rfl, rfl⟩)
    clear HW2 HW3 HIH HK HSK
    have hw0 : w.alloc (.cells #[.string ⟨n.toArray⟩, .string ⟨#[]⟩, .slice a 0 c] 24) = W0 := hw0
    obtain ⟨s, hs⟩ : ∃ s : Bs, [60] ++ n ++ [47, 62] = s := ⟨_, rfl⟩
    have HS := Lib.hid hs
    have HSL : Hid (s.length = n.length + 3) := by show _ = _; rw [← hs]; simp
    clear hs
    go_wp2_with (at_builtin; skip; refine wpList_append_x (by rfl) (by rfl) (by rfl) X0.out.at_.own s ?c2 ?c3 ?c4 ?c5 ?_)
    case c2 => exact (str3 [60] n [47, 62]).trans (congrArg (fun s : Bs => (⟨s.toArray⟩ : ByteArray)) HS.out)
    case c3 => have := HSL.out; intro e; rw [e] at this; simp only [List.length_nil] at this; omega
    case c4 => have := HL.out; have := HSL.out; have hz : l.length + s.length ≤ 140737488355328 := (by omega); exact hz
    case c5 => exact X0.out.at_.below.size
    intro v1 W1 hown hgr hat
    have X1 := Lib.hid (X0.out.app hown hgr hat)
    clear hown hgr hat k0 k1 k2
    go_wp2_with fail
    go_ret
    rw [HE.out, show l ++ (60 :: n ++ [47, 62]) = l ++ s from by rw [← HS.out]; rfl]
    exact X1.out.out
  have HE := Lib.hid (HW3.out g1 g2)
  clear HW3 HW2
  go_upto_region 3 with (fail)
  go_cut [18] (fun s18 wx => s18 = .bool false ∧ wx = W0)
  case first =>
    by_cases g3 : t = []
    · have g4 : ks ≠ [] := fun e => g2 ⟨g3, e⟩
      have g4z : ¬ (ks.length : Int) = 0 := by have := List.length_pos_iff.2 g4; omega
      have g4b : ((ks.length : Int) == 0) = false := beq_eq_false_iff_ne.2 g4z
      subst g3
      have hw0 : w.alloc (.cells #[.string ⟨n.toArray⟩, .string ⟨#[]⟩, .slice a ks.length c] 24) = W0 := hw0
      go_wp2_with fail
      go_meet
      case rel => exact ⟨rfl, rfl⟩
    · cases t with
      | nil => exact absurd rfl g3
      | cons t0 tt =>
      go_wp2_with fail
      go_meet
      case rel => exact ⟨rfl, rfl⟩
  case rest =>
    obtain ⟨rfl, hww⟩ := hcut
    have hww := hww.symm
    subst hww
    obtain ⟨s, hs⟩ : ∃ s : Bs, [60] ++ n ++ [62] ++ escL t = s := ⟨_, rfl⟩
    have HS := Lib.hid hs
    have HSL : Hid (s.length = n.length + 2 + (escL t).length) := by show _ = _; rw [← hs]; simp; omega
    have HEL := Lib.hid (esc_len t)
    have HWL : Hid (l.length + s.length + (writeKids ks).length + n.length + 3 ≤ 70368744177664) := by
      have h1 := HL.out
      rw [writeL, if_neg g2] at h1
      show _ ≤ _
      rw [HSL.out]
      simp only [List.length_append, List.length_cons, List.length_nil] at h1
      omega
    have HES : Hid (wrT (.node ⟨n.toArray⟩ ⟨t.toArray⟩ ks) l = wrKs ks (l ++ s) ++ (60 :: 47 :: n ++ [62])) := by
      show _ = _
      rw [HE.out, ← hs]
      simp only [List.append_assoc, List.cons_append, List.nil_append]
    clear hs HE HL
    have hEL := HEL.out
    have cc1 : ¬ 9223372036854775807 < 1 + n.length := by omega
    have cc2 : ¬ 9223372036854775807 < 1 + n.length + 1 := by omega
    have cc3 : ¬ 9223372036854775807 < 1 + n.length + 1 + (escL t).length := by omega
    clear hEL
    go_upto_region 5 with (fail)
    refine wp_region_held_drew (S := (fun W : World => W.heap[w.heap.size]? = some (.cells #[.string ⟨n.toArray⟩, .string ⟨t.toArray⟩, .slice a ks.length c] 24 (0, 0)))) (by kernel_rfl) ((Below.drew (Below.refl _ _)).block _ (Array.getElem?_eq_some_iff.1 X0.out.box).1 |>.trans X0.out.box) (fun hS0 => ?_)
    have X1 := Lib.hid (X0.out.later (Below.drew (Below.refl _ _)))
    have HREP := Lib.hid (rEsc_any t hSt W0.drew)
    clear X0
    generalize W0.drew = W1 at X1 HREP hS0 ⊢
    refine wpAnyH_take (i := 0) (oi := { dst := some 25, op := _, type := _, pos := _, after := _, guard := _ }) (v := ?_) rfl (by kernel_rfl) (by kernel_rfl) (by kernel_rfl) (fun _ _ _ h => h) (Or.inl ⟨by kernel_rfl, ?_⟩) (by assumption) ?_
    rotate_left
    · (intro w hSw; (try dsimp only at hSw); go_simp); all_goals (with_reducible rfl)
    try simp only [Act.put, List.setIfInBounds_toArray, List.set_cons_zero, List.set_cons_succ]
    refine wpAnyH_take (i := 1) (oi := { dst := some 26, op := _, type := _, pos := _, after := _, guard := _ }) (v := ?_) rfl (by kernel_rfl) (by kernel_rfl) (by kernel_rfl) (fun _ _ _ h => h) (Or.inl ⟨by kernel_rfl, ?_⟩) (by assumption) ?_
    rotate_left
    · (intro w hSw; (try dsimp only at hSw); go_simp); all_goals (with_reducible rfl)
    try simp only [Act.put, List.setIfInBounds_toArray, List.set_cons_zero, List.set_cons_succ]
    refine wpAnyH_take (i := 2) (oi := { dst := some 27, op := _, type := _, pos := _, after := _, guard := _ }) (v := ?_) rfl (by kernel_rfl) (by kernel_rfl) (by kernel_rfl) (fun _ _ _ h => h) (Or.inl ⟨by kernel_rfl, ?_⟩) (by assumption) ?_
    rotate_left
    · (intro w hSw; (try dsimp only at hSw); have j0 := cell_at (v := .string ⟨n.toArray⟩) (x := 0) hSw rfl; have j1 := cell_at (v := .string ⟨t.toArray⟩) (x := 1) hSw rfl; go_simp); all_goals (with_reducible rfl)
    try simp only [Act.put, List.setIfInBounds_toArray, List.set_cons_zero, List.set_cons_succ]
    refine wpAnyH_take (i := 3) (oi := { dst := some 28, op := _, type := _, pos := _, after := _, guard := _ }) (v := ?_) rfl (by kernel_rfl) (by kernel_rfl) (by kernel_rfl) (fun _ _ _ h => h) (Or.inl ⟨by kernel_rfl, ?_⟩) (by assumption) ?_
    rotate_left
    · (intro w hSw; (try dsimp only at hSw); go_simp); all_goals (with_reducible rfl)
    try simp only [Act.put, List.setIfInBounds_toArray, List.set_cons_zero, List.set_cons_succ]
    refine wpAnyH_take (i := 4) (oi := { dst := some 29, op := _, type := _, pos := _, after := _, guard := _ }) (v := ?_) rfl (by kernel_rfl) (by kernel_rfl) (by kernel_rfl) (fun _ _ _ h => h) (Or.inl ⟨by kernel_rfl, ?_⟩) (by assumption) ?_
    rotate_left
    · (intro w hSw; (try dsimp only at hSw); go_simp); all_goals (with_reducible rfl)
    try simp only [Act.put, List.setIfInBounds_toArray, List.set_cons_zero, List.set_cons_succ]
    refine wpAnyH_take (i := 5) (oi := { dst := some 30, op := _, type := _, pos := _, after := _, guard := _ }) (v := ?_) rfl (by kernel_rfl) (by kernel_rfl) (by kernel_rfl) (fun _ _ _ h => h) (Or.inl ⟨by kernel_rfl, ?_⟩) (by assumption) ?_
    rotate_left
    · (intro w hSw; (try dsimp only at hSw); go_simp); all_goals (with_reducible rfl)
    try simp only [Act.put, List.setIfInBounds_toArray, List.set_cons_zero, List.set_cons_succ]
    refine wpAnyH_take (i := 6) (oi := { dst := some 31, op := _, type := _, pos := _, after := _, guard := _ }) (v := ?_) rfl (by kernel_rfl) (by kernel_rfl) (by kernel_rfl) (fun _ _ _ h => h) (Or.inl ⟨by kernel_rfl, ?_⟩) (by assumption) ?_
    rotate_left
    · (intro w hSw; (try dsimp only at hSw); have j0 := cell_at (v := .string ⟨n.toArray⟩) (x := 0) hSw rfl; have j1 := cell_at (v := .string ⟨t.toArray⟩) (x := 1) hSw rfl; go_simp); all_goals (with_reducible rfl)
    try simp only [Act.put, List.setIfInBounds_toArray, List.set_cons_zero, List.set_cons_succ]
    refine wpAnyH_ready (rs := [7]) (by kernel_rfl) (by simp) ?_
    refine (AllReadyH.cons (o := { dst := some 32, op := _, type := _, pos := _, after := _, guard := _ }) rfl (fun K hK => ?_) AllReadyH.nil)
    rw [if_pos (by kernel_rfl)]
    refine wp_call_go Tryz.func44 (by kernel_rfl) (by kernel_rfl) (xs := [.tmp 31]) (by rfl) (vs := [.string ⟨t.toArray⟩]) (HREP.out) (by rfl) ?_
    rintro e W2 ⟨rfl, h2⟩
    refine ⟨_, rfl, ?_⟩
    have X2 := Lib.hid (X1.out.later h2)
    clear h2
    refine hK.out _ W2 X2.out.box (fun hSe => ?_)
    clear hK K
    try simp only [Act.put, List.setIfInBounds_toArray, List.set_cons_zero, List.set_cons_succ]
    refine wpAnyH_take (i := 8) (oi := { dst := some 33, op := _, type := _, pos := _, after := _, guard := _ }) (v := ?_) rfl (by kernel_rfl) (by kernel_rfl) (by kernel_rfl) (fun _ _ _ h => h) (Or.inl ⟨by kernel_rfl, ?_⟩) (by assumption) ?_
    rotate_left
    · (intro w hSw; (try dsimp only at hSw); go_simp); all_goals (with_reducible rfl)
    try simp only [Act.put, List.setIfInBounds_toArray, List.set_cons_zero, List.set_cons_succ]
    refine wpAnyH_ready (rs := [9]) (by kernel_rfl) (by simp) ?_
    refine (AllReadyH.cons (o := { dst := some 34, op := _, type := _, pos := _, after := _, guard := _ }) rfl (fun K hK => ?_) AllReadyH.nil)
    rw [if_pos (by kernel_rfl)]
    refine wp_append_x (by rfl) (by rfl) X2.out.at_.own s (by exact congrArg Value.string ((str4 [60] n [62] (escL t)).trans (congrArg (fun s : Bs => (⟨s.toArray⟩ : ByteArray)) HS.out))) ?c3 ?c4 ?c5 ?_
    case c3 => have := HSL.out; intro e; rw [e] at this; simp only [List.length_nil] at this; omega
    case c4 => have := HWL.out; have hz : l.length + s.length ≤ 140737488355328 := (by omega); exact hz
    case c5 => exact X2.out.at_.below.size
    intro v3 W3 hown hgr hat
    have X3 := Lib.hid (X2.out.app hown hgr hat)
    clear hown hgr hat
    refine hK.out _ W3 X3.out.box (fun hSe => ?_)
    clear hK K
    try simp only [Act.put, List.setIfInBounds_toArray, List.set_cons_zero, List.set_cons_succ]
    refine wpAnyH_take (i := 10) (oi := { dst := some 0, op := _, type := _, pos := _, after := _, guard := _ }) (v := ?_) rfl (by kernel_rfl) (by kernel_rfl) (by kernel_rfl) (fun _ _ _ h => h) (Or.inl ⟨by kernel_rfl, ?_⟩) (by assumption) ?_
    rotate_left
    · (intro w hSw; (try dsimp only at hSw); go_simp); all_goals (with_reducible rfl)
    try simp only [Act.put, List.setIfInBounds_toArray, List.set_cons_zero, List.set_cons_succ]
    refine wpAnyH_done (by kernel_rfl) ?_ _
    have k2 : W3.cell? ⟨w.heap.size, 2, none⟩ = some (.slice a ks.length c) := cell_at X3.out.box rfl
    have HWL3 : Hid ((l ++ s).length + (writeKids ks).length + n.length + 3 ≤ 70368744177664) := by
      show _ ≤ _
      rw [List.length_append]
      exact HWL.out
    clear X2 X1 HREP HWL HS HSL HEL hS0 hSe cc1 cc2 cc3
    go_wp2_with fail
    go_loopg [0, 5] ks.length (fun gg s0 s5 wr => ∃ (i : Nat) (v : Value) (li : Bs), i ≤ ks.length ∧ ks.length - i ≤ gg ∧ s5 = .int .i64 i ∧ s0 = v ∧ Hid (WrIn w0 w wr (.slice p l.length cp) v li #[.string ⟨n.toArray⟩, .string ⟨t.toArray⟩, .slice a ks.length c]) ∧ Hid (wrKs ks (l ++ s) = wrKs (ks.drop i) li) ∧ Hid (li.length + (writeKids (ks.drop i)).length + n.length + 3 ≤ 70368744177664))
    case atStart => exact ⟨0, v3, l ++ s, Nat.zero_le _, by omega, rfl, rfl, X3.out, rfl, HWL3.out⟩
    case round =>
      obtain ⟨i, v, li, hi', hg, rfl, hv, HR, HSM, HB⟩ := hrel
      have hv := hv.symm
      subst hv
      by_cases hlt : i < ks.length
      · have hiz : (i : Int) < (ks.length : Int) := by omega
        obtain ⟨k, hik⟩ : ∃ k, ks[i]? = some k := ⟨_, List.getElem?_eq_getElem hlt⟩
        obtain ⟨b, off, a2, c2, rfl, hrg, hkT⟩ := kid_range HK.out hik
        have HKC : Hid (wr.rangeAt b (off + i * 3) [.string k.name, .string k.text, .slice a2 k.kids.length c2]) := fun j u hu => cell_later HR.out.at_.below (hrg j u hu)
        have HKT := Lib.hid hkT
        have HMK := Lib.hid (wrKs_at hik li)
        have HBK : Hid (li.length + (writeL k).length ≤ 70368744177664 ∧ (wrT k li).length + (writeKids (ks.drop (i + 1))).length + n.length + 3 ≤ 70368744177664) := by
          have h1 := (wr_law k li).high
          have h2 := writeKids_at hik
          have h3 := HB.out
          exact ⟨by omega, by omega⟩
        have HRK := Lib.hid (HIH.out k (List.mem_of_getElem? hik))
        have HSK1 := Lib.hid (HSK.out k (List.mem_of_getElem? hik))
        clear hrg hkT hik
        have k2 : wr.cell? ⟨w.heap.size, 2, none⟩ = some (.slice (some ⟨b, off, none⟩) ks.length c) := cell_at HR.out.box rfl
        go_wp2_with (refine wpList_load_mid (by rfl) 24 _ (by rfl) b (off + i * 3) (by rfl) [.string k.name, .string k.text, .slice a2 k.kids.length c2] _ HKC.out Tryz.underlying24 rfl (by kernel_rfl) ?_)
        refine (HRK.out w0 wr v li a2 c2 HKT.out HSK1.out HBK.out.1 HR.out.at_).mono ?_
        rintro e W6 ho
        obtain ⟨v6, rfl, h6⟩ := HR.out.called ho
        have HR6 := Lib.hid h6
        clear h6 ho
        go_wp2_with fail
        go_roundg (ks.length - (i + 1))
        case measure => omega
        case rel => exact ⟨i + 1, v6, wrT k li, by omega, Nat.le_refl _, by go_num, rfl, HR6.out, HSM.out.trans HMK.out, HBK.out.2⟩
      · have hiz : ¬ (i : Int) < (ks.length : Int) := by omega
        obtain rfl : i = ks.length := by omega
        obtain ⟨u, hu⟩ : ∃ u : Bs, [60, 47] ++ n ++ [62] = u := ⟨_, rfl⟩
        have HU := Lib.hid hu
        have HUL : Hid (u.length = n.length + 3) := by show _ = _; rw [← hu]; simp
        have HRES : Hid (wrT (.node ⟨n.toArray⟩ ⟨t.toArray⟩ ks) l = li ++ u) := by
          show _ = _
          rw [HES.out, HSM.out, List.drop_length, ← hu]
          rfl
        have k2 : wr.cell? ⟨w.heap.size, 2, none⟩ = some (.slice a ks.length c) := cell_at HR.out.box rfl
        obtain ⟨p2, cp2, rfl⟩ := HR.out.at_.form
        have q0 : wr.cell? ⟨w.heap.size, 0, none⟩ = some (.string ⟨n.toArray⟩) := cell_at HR.out.box rfl
        clear hu HES HSM HIH HK HSK
        go_wp2_with (at_builtin; skip; refine wpList_append_x (by rfl) (by rfl) (by rfl) HR.out.at_.own u ?c2 ?c3 ?c4 ?c5 ?_)
        case c2 => exact (str3 [60, 47] n [62]).trans (congrArg (fun s : Bs => (⟨s.toArray⟩ : ByteArray)) HU.out)
        case c3 => have := HUL.out; intro e; rw [e] at this; simp only [List.length_nil] at this; omega
        case c4 => have := HB.out; have := HUL.out; have hz : li.length + u.length ≤ 140737488355328 := (by omega); exact hz
        case c5 => exact HR.out.at_.below.size
        intro v7 W7 hown hgr hat
        have X7 := Lib.hid (HR.out.app hown hgr hat)
        clear hown hgr hat q0
        go_wp2_with fail
        go_ret
        rw [HRES.out]
        exact X7.out.out
end Go.Proofs.YtgmgghbocidibaaGreatDoor.Ref
