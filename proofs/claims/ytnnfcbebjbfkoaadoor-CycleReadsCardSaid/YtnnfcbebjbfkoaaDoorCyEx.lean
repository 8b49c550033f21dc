/-
  examples: the walk.
-/
import Derived.Test.YtnnfcbebjbfkoaaDoorCyPlain
import Derived.Test.YtnnfcbebjbfkoaaDoorCyRead
import Derived.Test.YtnnfcbebjbfkoaaDoorCyNext2
import Derived.Test.YtnnfcbebjbfkoaaDoorCySame
import Derived.Deep.RegionHeld3
import Derived.Deep.DeepCutAuto
namespace Go.Proofs.YtnnfcbebjbfkoaaDoor
open Go.RowKit

def dayR : RuleV := ⟨⟨#[]⟩, ⟨#[]⟩, true, 1, 0, 0⟩
def dayW : RuleW := ⟨dayR, by unfold RuleOK IntOK dayR; simp⟩
def vFive : VersionV := ⟨5, false, false, ⟨#[]⟩, ⟨#[]⟩, 0, 0, none, 0, 0⟩

theorem day_any (w : World) : Calls Tryd.prog 18 #[] w fun e w' => e = .returned (.slice (some ⟨w.heap.size, 0, none⟩) 1 1) ∧ w' = w.alloc (.cells dayR.cells.toArray 34) := by
  go_enter Tryd.func18, Tryd.ntmps18
  go_wp2
  go_ret
  exact ⟨rfl, rfl⟩

theorem RulesIn.laid (w : World) (r : RuleV) (B : Nat) (hB : w.heap.size = B) : RulesIn (w.alloc (.cells r.cells.toArray 34)) (.slice (some ⟨B, 0, none⟩) 1 1) [r] :=
  ⟨_, _, rfl, by simp, fun _ => ⟨B, 0, rfl, fun i r' hr j u hu => by
    have hi : i = 0 := by have := (List.getElem?_eq_some_iff.1 hr).1; simpa using this
    subst hi
    simp at hr; subst hr
    exact cell_new _ _ _ _ _ _ (by simp [hB]) (by simpa using hu)⟩⟩
theorem VersionsIn.laid (w : World) (r : VersionV) (B : Nat) (hB : w.heap.size = B) : VersionsIn (w.alloc (.cells r.cells.toArray 56)) (.slice (some ⟨B, 0, none⟩) 1 1) [r] :=
  ⟨_, _, rfl, by simp, fun _ => ⟨B, 0, rfl, fun i r' hr j u hu => by
    have hi : i = 0 := by have := (List.getElem?_eq_some_iff.1 hr).1; simpa using this
    subst hi
    simp at hr; subst hr
    exact cell_new _ _ _ _ _ _ (by simp [hB]) (by simpa using hu)⟩⟩

theorem due_a : due [dayR] 0 ⟨#[107]⟩ [vFive] 86399 = ([], false) := by decide
theorem due_b : due [dayR] 0 ⟨#[107]⟩ [vFive] 86400 = ([5], false) := by decide
theorem due_c : due [dayR] 1 ⟨#[107]⟩ [vFive] 86400 = ([], true) := by decide
theorem itoa_one : Lib.itoa 1 = [49] := by
  simp [Lib.itoa, Lib.decDigits]
theorem dayR_rd : RuleRd dayR ∧ 0 < dayR.days + dayR.nonc + dayR.abort := by
  refine ⟨⟨by decide, by decide, .inr ⟨by decide, by decide, ?_, ?_⟩, .inl rfl, .inl rfl⟩, by decide⟩
  · show dayNum ⟨(Lib.itoa 1).toArray⟩ = 1
    have e : Lib.atoiAll [49] = .ok 1 := by rfl
    unfold dayNum
    rw [itoa_one]
    simp [e, itoa_one]
  · show (Lib.itoa 1).length ≤ 5
    rw [itoa_one]; decide
theorem read_day : readOf (tellT [dayR]) = some [dayR] := by
  have hE : readOf (tellT [dayR]) = if (⟨tConf.toArray⟩ : ByteArray).toList == tConf && (⟨#[]⟩ : ByteArray).toList.isEmpty && decide (1 ≤ ([dayR].map ruleT).length ∧ ([dayR].map ruleT).length ≤ 10) then readKids ([dayR].map ruleT) else none := rfl
  rw [hE, if_pos (by rw [show (⟨#[]⟩ : ByteArray).toList = [] from toList_mk' [], toList_mk']; simp)]
  exact readKids_tell [dayR] (fun r hr => by simp at hr; subst hr; exact dayR_rd)
theorem read_empty : readOf (.node ⟨tConf.toArray⟩ ⟨#[]⟩ []) = none := by
  have hE : readOf (.node ⟨tConf.toArray⟩ ⟨#[]⟩ []) = if (⟨tConf.toArray⟩ : ByteArray).toList == tConf && (⟨#[]⟩ : ByteArray).toList.isEmpty && decide (1 ≤ ([] : List Tree).length ∧ ([] : List Tree).length ≤ 10) then readKids [] else none := rfl
  rw [hE, if_neg (by simp)]
def rowFive : RowV := ⟨⟨#[107]⟩, false, false, vFive, ⟨0, ⟨#[]⟩, ⟨#[]⟩, ⟨#[]⟩, ⟨#[]⟩, 0, none, 0, 0⟩⟩
theorem next_day : nextOf [dayR] 0 ⟨#[97, 98, 99]⟩ [rowFive] [] 86400 = some (opV 19 86400 ⟨#[97, 98, 99]⟩ ⟨#[107]⟩ ⟨#[48, 48, 48, 48, 48, 48, 48, 48, 48, 48, 48, 48, 48, 48, 48, 53]⟩ 0) := by
  have hk : nextKey [dayR] 0 ⟨#[97, 98, 99]⟩ 86400 ⟨#[107]⟩ [vFive] = some (opV 19 86400 ⟨#[97, 98, 99]⟩ ⟨#[107]⟩ ⟨#[48, 48, 48, 48, 48, 48, 48, 48, 48, 48, 48, 48, 48, 48, 48, 53]⟩ 0) := by
    unfold nextKey
    rw [due_b]
    have e : numText 5 = [48, 48, 48, 48, 48, 48, 48, 48, 48, 48, 48, 48, 48, 48, 48, 53] := by
      unfold numText
      rw [if_pos (by decide), hexL_small (by decide)]
      rfl
    simp only [List.find?_cons, vFive]
    simp [verName, e, bytes]
  have hs : sameKey rowFive.key [rowFive] = [rowFive] := by simp [sameKey]
  unfold nextOf
  simp only [List.length_singleton]
  rw [nextRows_cons (f := 0) (r := rowFive) rfl, hs]
  have hk' : nextKey [dayR] 0 ⟨#[97, 98, 99]⟩ 86400 rowFive.key ([rowFive].map RowV.ver) = _ := hk
  rw [hk']

def opCells : Array Value := #[.int .i64 19, .int .i64 86400, .string ⟨#[]⟩, .string ⟨#[97, 98, 99]⟩, .string ⟨#[107]⟩, .string ⟨#[48, 48, 48, 48, 48, 48, 48, 48, 48, 48, 48, 48, 48, 48, 48, 53]⟩, .int .i64 0, .int .i64 0, .int .i64 0, .int .i64 0, .string ⟨#[]⟩, .string ⟨#[]⟩, .string ⟨#[]⟩, .string ⟨#[]⟩, .string ⟨#[]⟩, .string ⟨#[]⟩, .string ⟨#[]⟩, .int .i64 0, .int .i64 0, .slice none 0 0, .slice none 0 0, .int .i64 0, .int .i64 0]

theorem heap_at' {w7 X : World} (_h : Below w7.heap.size w7 X) (o : Obj) (B : Nat) (hB : X.heap.size = B) : (X.alloc o).heap[B]? = some o := heap_at _ _ hB.symm
theorem rules_at {w7 X : World} (_h : Below w7.heap.size w7 X) (B : Nat) (hB : X.heap.size = B) : RulesIn (X.alloc (.cells dayR.cells.toArray 34)) (.slice (some ⟨B, 0, none⟩) 1 1) [dayR] := RulesIn.laid X dayR B hB
theorem rows_at {w7 X : World} (_h : Below w7.heap.size w7 X) (B : Nat) (hB : X.heap.size = B) : RowsIn (X.alloc (.cells rowFive.cells.toArray 61)) (.slice (some ⟨B, 0, none⟩) 1 1) [rowFive] :=
  ⟨_, _, rfl, by simp, by simp, fun _ => ⟨B, 0, rfl, fun i r' hr j u hu => by
    have hi : i = 0 := by have := (List.getElem?_eq_some_iff.1 hr).1; simpa using this
    subst hi
    simp at hr; subst hr
    exact cell_new _ _ _ _ _ _ (by simp [hB]) (by simpa using hu)⟩⟩

/-- what Due tells of the examples -/
def ExDue (o : List Int × Bool) (W : World) (e : Ending) (w' : World) : Prop :=
  ∃ a c, e = .returned (.tuple #[.slice a o.1.length c, .bool o.2]) ∧ Below W.heap.size W w' ∧ ∀ s t, o.1 = s :: t → ∃ g, a = some ⟨g, 0, none⟩ ∧ w'.cell? ⟨g, 0, none⟩ = some (.int .i64 s)
theorem ex_due (mode now : Int) (o : List Int × Bool) (h : due [dayR] mode ⟨#[107]⟩ [vFive] now = o) (hm : IntOK mode) (hn : IntOK now) (W : World) (lv vv : Value) (hL : RulesIn W lv [dayR]) (hV : VersionsIn W vv [vFive]) :
    Calls Tryd.prog 11 #[lv, .int .i64 mode, .string ⟨#[107]⟩, vv, .int .i64 now] W (ExDue o W) := by
  refine (due_walk [dayW] mode ⟨#[107]⟩ [vFive] now lv vv W hm hn (fun v hv => by simp at hv; subst hv; unfold VersionV.OK IntOK vFive; simp) hL hV).mono ?_
  rintro e w' ⟨v, rfl, hd⟩
  have e1 : due ([dayW].map Subtype.val) mode ⟨#[107]⟩ [vFive] now = o := h
  rw [e1] at hd ⊢
  rcases hd.own.2 with ⟨h1, h2⟩ | ⟨g, cap, cur, h1, _, hg, hn, hm, hcs, ht⟩
  · refine ⟨none, 0, by rw [h1, h2], hd.below, fun s t he => by rw [he] at h2; simp at h2⟩
  · refine ⟨_, _, by rw [h1], hd.below, fun s t he => ⟨g, rfl, ?_⟩⟩
    rw [cell_of_heap hg]
    have := congrArg (fun l => l[0]?) ht
    rw [he] at this
    simpa using this

set_option maxHeartbeats 2000000 in
set_option maxRecDepth 100000 in
theorem ex_walk (w : World) (hG : Glob w) : Calls Tryd.prog 7 #[] w fun e w' => e = .returned (.bool true) ∧ Below w.heap.size w w' := by
  have HG := Lib.hid hG
  clear hG
  have V0 : Hid (VersionsIn (w.alloc (.cells vFive.cells.toArray 56)) (.slice (some ⟨w.heap.size, 0, none⟩) 1 1) [vFive]) := VersionsIn.laid w vFive _ rfl
  have B0 : Hid (Below w.heap.size w (w.alloc (.cells vFive.cells.toArray 56))) := below_alloc (Below.refl _ _) (Nat.le_refl _) _
  obtain ⟨w0, hw0⟩ : ∃ w0, Hid (w0 = w.alloc (.cells vFive.cells.toArray 56)) := ⟨_, rfl⟩
  go_enter Tryd.func7, Tryd.ntmps7
  go_wp2_with fail
  refine (day_any _).mono ?_
  rintro e w1 ⟨rfl, rfl⟩
  go_wp2_with fail
  refine (ex_due 0 86399 _ due_a (by unfold IntOK; simp) (by unfold IntOK; simp) _ _ _ (RulesIn.laid _ dayR _ (by simp)) (V0.out.later (below_alloc (Below.refl _ _) (Nat.le_refl _) _))).mono ?_
  rintro e w2 ⟨a2, c2, rfl, hb2, _⟩
  have B2 : Hid (Below w.heap.size w w2) := (below_alloc B0.out (by omega) _).trans (hb2.mono (by simp; omega))
  have V2 : Hid (VersionsIn w2 (.slice (some ⟨w.heap.size, 0, none⟩) 1 1) [vFive]) := (V0.out.later (below_alloc (Below.refl _ _) (Nat.le_refl _) _)).later hb2
  clear hb2
  go_wp2_with fail
  refine (day_any _).mono ?_
  rintro e w1 ⟨rfl, rfl⟩
  go_wp2_with fail
  refine (ex_due 0 86400 _ due_b (by unfold IntOK; simp) (by unfold IntOK; simp) _ _ _ (RulesIn.laid _ dayR _ rfl) (V2.out.later (below_alloc (Below.refl _ _) (Nat.le_refl _) _))).mono ?_
  rintro e w3 ⟨a3, c3, rfl, hb3, h3⟩
  obtain ⟨g3, rfl, k3⟩ := h3 5 [] rfl
  have B3 : Hid (Below w.heap.size w w3) := (below_alloc B2.out (Nat.le_refl _) _).trans (hb3.mono (by have := B2.out.size; simp; omega))
  have V3 : Hid (VersionsIn w3 (.slice (some ⟨w.heap.size, 0, none⟩) 1 1) [vFive]) := (V2.out.later (below_alloc (Below.refl _ _) (Nat.le_refl _) _)).later hb3
  have K3 := Lib.hid k3
  clear hb3 h3 k3
  go_wp2_with fail
  refine (day_any _).mono ?_
  rintro e w1 ⟨rfl, rfl⟩
  go_wp2_with fail
  refine (ex_due 1 86400 _ due_c (by unfold IntOK; simp) (by unfold IntOK; simp) _ _ _ (RulesIn.laid _ dayR _ rfl) (V3.out.later (below_alloc (Below.refl _ _) (Nat.le_refl _) _))).mono ?_
  rintro e w4 ⟨a4, c4, rfl, hb4, _⟩
  have B4 : Hid (Below w.heap.size w w4) := (below_alloc B3.out (Nat.le_refl _) _).trans (hb4.mono (by have := B3.out.size; simp; omega))
  have V4 : Hid (VersionsIn w4 (.slice (some ⟨w.heap.size, 0, none⟩) 1 1) [vFive]) := (V3.out.later (below_alloc (Below.refl _ _) (Nat.le_refl _) _)).later hb4
  have K4 : Hid (w4.cell? ⟨g3, 0, none⟩ = some (.int .i64 5)) := cell_later hb4 (cell_past _ K3.out)
  clear hb4
  go_wp2_with fail
  refine Calls.mono (read_any (.node ⟨tConf.toArray⟩ ⟨#[]⟩ []) none 0 _ (HG.out.later B4.out) (by simp [Tree.kids]) (by simp [Tree.kids, KidsIn])) ?_
  rw [read_empty]
  rintro e w5 ⟨rfl, hb5⟩
  have B5 : Hid (Below w.heap.size w w5) := B4.out.trans (hb5.mono B4.out.size)
  have V5 : Hid (VersionsIn w5 (.slice (some ⟨w.heap.size, 0, none⟩) 1 1) [vFive]) := V4.out.later hb5
  have K5 : Hid (w5.cell? ⟨g3, 0, none⟩ = some (.int .i64 5)) := cell_later hb5 K4.out
  clear hb5
  go_wp2_with fail
  refine (day_any _).mono ?_
  rintro e w1 ⟨rfl, rfl⟩
  go_wp2_with fail
  refine (tell_walk [dayR] _ _ (HG.out.later (below_alloc B5.out (Nat.le_refl _) _)) (RulesIn.laid _ dayR _ rfl) (by intro r hr; simp at hr; subst hr; unfold IntOK dayR; simp) (by intro r hr; simp at hr; subst hr; unfold maxRead dayR; simp [ByteArray.size]) (by simp)).mono ?_
  rintro e w6 ⟨x6, y6, z6, rfl, ht6, hb6⟩
  have B6 : Hid (Below w.heap.size w w6) := (below_alloc B5.out (Nat.le_refl _) _).trans (hb6.mono (by have := B5.out.size; simp; omega))
  have V6 : Hid (VersionsIn w6 (.slice (some ⟨w.heap.size, 0, none⟩) 1 1) [vFive]) := (V5.out.later (below_alloc (Below.refl _ _) (Nat.le_refl _) _)).later hb6
  have K6 : Hid (w6.cell? ⟨g3, 0, none⟩ = some (.int .i64 5)) := cell_later hb6 (cell_past _ K5.out)
  obtain ⟨rfl, rfl, _, _, hl6, a6, c6, rfl, hk6⟩ := ht6.cells
  have HK6 := Lib.hid hk6
  have HL6 := Lib.hid hl6
  clear hb6 ht6 hk6 hl6
  go_wp2_with fail
  refine Calls.mono (read_any (tellT [dayR]) a6 c6 _ (HG.out.later B6.out) HL6.out HK6.out) ?_
  rw [read_day]
  rintro e w7 ⟨⟨v7, rfl, ho7⟩, hb7⟩
  have B7 : Hid (Below w.heap.size w w7) := B6.out.trans (hb7.mono B6.out.size)
  have V7 : Hid (VersionsIn w7 (.slice (some ⟨w.heap.size, 0, none⟩) 1 1) [vFive]) := V6.out.later hb7
  have K7 : Hid (w7.cell? ⟨g3, 0, none⟩ = some (.int .i64 5)) := cell_later hb7 K6.out
  obtain ⟨b7, c7, rfl, HL7⟩ : ∃ b c, v7 = .slice (some ⟨b, 0, none⟩) 1 c ∧ Hid (∀ j u, dayR.cells[j]? = some u → w7.cell? ⟨b, j, none⟩ = some u) := by
    rcases ho7.2 with ⟨h1, h2⟩ | ⟨g, cap, cur, h1, _, hg, hn, hm, hcs, ht⟩
    · simp at h2
    · refine ⟨g, cap, by rw [h1]; rfl, fun j u hj => ?_⟩
      have hjl : j < 6 := by have := (List.getElem?_eq_some_iff.1 hj).1; simpa [RuleV.cells] using this
      have := flat_get [dayR] 0 dayR rfl j hjl
      rw [cell_of_heap hg, ← hj, ← this, ← ht, List.getElem?_take, if_pos (by simp; omega), Array.getElem?_toList]; simp
  clear hb7 ho7
  go_wp2_with fail
  have V7c : Hid (∀ j u, vFive.cells[j]? = some u → w7.cell? ⟨w.heap.size, j, none⟩ = some u) := by
    obtain ⟨a', c', h1, _, h2⟩ := V7.out
    obtain ⟨b', o', h3, h4⟩ := h2 (by simp)
    simp only [Value.slice.injEq] at h1
    have h5 := h1.1.trans h3
    simp only [Option.some.injEq, Addr.mk.injEq] at h5
    obtain ⟨rfl, rfl, _⟩ := h5
    intro j u hj
    have := h4 0 vFive rfl j u hj
    simpa using this
  have v0 : w7.cell? ⟨w.heap.size, 0, none⟩ = some (.int .i64 5) := V7c.out 0 _ rfl
  have v1 : w7.cell? ⟨w.heap.size, 1, none⟩ = some (.bool false) := V7c.out 1 _ rfl
  have v2 : w7.cell? ⟨w.heap.size, 2, none⟩ = some (.bool false) := V7c.out 2 _ rfl
  have v3 : w7.cell? ⟨w.heap.size, 3, none⟩ = some (.string ⟨#[]⟩) := V7c.out 3 _ rfl
  have v4 : w7.cell? ⟨w.heap.size, 4, none⟩ = some (.string ⟨#[]⟩) := V7c.out 4 _ rfl
  have v5 : w7.cell? ⟨w.heap.size, 5, none⟩ = some (.int .i64 0) := V7c.out 5 _ rfl
  have v6 : w7.cell? ⟨w.heap.size, 6, none⟩ = some (.int .i64 0) := V7c.out 6 _ rfl
  have v7 : w7.cell? ⟨w.heap.size, 7, none⟩ = some (.slice none 0 0) := V7c.out 7 _ rfl
  have HNX := Lib.hid (fun W lv rv hL hR htab => next_walk (⟨⟨#[97, 98, 99]⟩, ⟨#[]⟩, ⟨#[]⟩, 0, 0⟩ : BucketV) [dayW] lv [rowFive] rv [] (.slice none 0 0) 86400 W (by unfold IntOK; simp) (by unfold IntOK; simp) (by intro r hr; simp at hr; subst hr; unfold VersionV.OK IntOK rowFive vFive; simp) (by intro u hu; cases hu) htab hL hR ⟨none, 0, rfl, by simp, fun h => by simp at h⟩)
  rw [show ([dayW].map Subtype.val) = [dayR] from rfl, next_day] at HNX
  go_cut [12, 13] (fun s12 s13 wx => ∃ B, s12 = .pointer (some ⟨B, 0, none⟩) ∧ s13 = .bool true ∧ Hid (wx.heap[B]? = some (.cells opCells 47 (0, 0)) ∧ Below w7.heap.size w7 wx))
  case first =>
    refine wp_region_held_drew (S := (fun w' => Below w7.heap.size w7 w')) (by kernel_rfl) (Below.refl _ _).drew (fun hS0 => ?_)
    refine wpAnyH_take (i := 2) (oi := { dst := some 48, op := _, type := _, pos := _, after := _, guard := _ }) (v := ?_) rfl (by kernel_rfl) (by kernel_rfl) (by kernel_rfl) (fun _ _ _ h => h) (Or.inl ⟨by kernel_rfl, ?_⟩) (by assumption) ?_
    rotate_left
    · (intro w hSw; (try dsimp only at hSw); go_simp); all_goals (with_reducible rfl)
    try simp only [Act.put, List.setIfInBounds_toArray, List.set_cons_zero, List.set_cons_succ]
    refine wpAnyH_take (i := 3) (oi := { dst := some 49, op := _, type := _, pos := _, after := _, guard := _ }) (v := ?_) rfl (by kernel_rfl) (by kernel_rfl) (by kernel_rfl) (fun _ _ _ h => h) (Or.inl ⟨by kernel_rfl, ?_⟩) (by assumption) ?_
    rotate_left
    · (intro w hSw; (try dsimp only at hSw); go_simp); all_goals (with_reducible rfl)
    try simp only [Act.put, List.setIfInBounds_toArray, List.set_cons_zero, List.set_cons_succ]
    refine wpAnyH_take (i := 4) (oi := { dst := some 50, op := _, type := _, pos := _, after := _, guard := _ }) (v := ?_) rfl (by kernel_rfl) (by kernel_rfl) (by kernel_rfl) (fun _ _ _ h => h) (Or.inl ⟨by kernel_rfl, ?_⟩) (by assumption) ?_
    rotate_left
    · (intro w hSw; (try dsimp only at hSw); have q0 := cell_later hSw v0; have q1 := cell_later hSw v1; have q2 := cell_later hSw v2; have q3 := cell_later hSw v3; have q4 := cell_later hSw v4; have q5 := cell_later hSw v5; have q6 := cell_later hSw v6; have q7 := cell_later hSw v7; go_simp); all_goals (with_reducible rfl)
    try simp only [Act.put, List.setIfInBounds_toArray, List.set_cons_zero, List.set_cons_succ]
    refine wpAnyH_take (i := 5) (oi := { dst := some 51, op := _, type := _, pos := _, after := _, guard := _ }) (v := ?_) rfl (by kernel_rfl) (by kernel_rfl) (by kernel_rfl) (fun _ _ _ h => h) (Or.inl ⟨by kernel_rfl, ?_⟩) (by assumption) ?_
    rotate_left
    · (intro w hSw; (try dsimp only at hSw); go_simp); all_goals (with_reducible rfl)
    try simp only [Act.put, List.setIfInBounds_toArray, List.set_cons_zero, List.set_cons_succ]
    refine wpAnyH_ready (rs := [0, 6, 11]) (by kernel_rfl) (by simp) ?_
    refine (AllReadyH.cons rfl (fun K hK => ?_) (AllReadyH.cons rfl (fun K hK => ?_) (AllReadyH.cons rfl (fun K hK => ?_) AllReadyH.nil)))
    · rw [if_pos (by kernel_rfl)]
      go_wp2_with fail
      refine (day_any _).mono ?_
      rintro e wd ⟨rfl, rfl⟩
      go_wp2_with fail
      have HRu := Lib.hid (rules_at hS0 (w7.heap.size) rfl)
      refine hK.out _ _ (hS0.alloc hS0.size _) (fun hS1 => ?_)
      clear hK K
      try simp only [Act.put, List.setIfInBounds_toArray, List.set_cons_zero, List.set_cons_succ]
      refine wpAnyH_take (i := 1) (oi := { dst := some 47, op := _, type := _, pos := _, after := _, guard := _ }) (v := ?_) rfl (by kernel_rfl) (by kernel_rfl) (by kernel_rfl) (fun _ _ _ h => h) (Or.inl ⟨by kernel_rfl, ?_⟩) (by assumption) ?_
      rotate_left
      · (intro w hSw; (try dsimp only at hSw); go_simp); all_goals (with_reducible rfl)
      try simp only [Act.put, List.setIfInBounds_toArray, List.set_cons_zero, List.set_cons_succ]
      refine wpAnyH_ready (rs := [6, 11]) (by kernel_rfl) (by simp) ?_
      refine (AllReadyH.cons rfl (fun K hK => ?_) (AllReadyH.cons rfl (fun K hK => ?_) AllReadyH.nil))
      · rw [if_pos (by kernel_rfl)]
        go_wp2_with fail
        replace HRu := Lib.hid (HRu.out.later (below_alloc (Below.refl _ _) (Nat.le_refl _) (.cells rowFive.cells.toArray 61)))
        have HRo := Lib.hid (rows_at hS1 (w7.heap.size + 1) (by simp))
        refine hK.out _ _ (hS1.alloc hS1.size _) (fun hS2 => ?_)
        clear hK K
        try simp only [Act.put, List.setIfInBounds_toArray, List.set_cons_zero, List.set_cons_succ]
        refine wpAnyH_ready (rs := [7, 11]) (by kernel_rfl) (by simp) ?_
        refine (AllReadyH.cons rfl (fun K hK => ?_) (AllReadyH.cons rfl (fun K hK => ?_) AllReadyH.nil))
        · rw [if_pos (by kernel_rfl)]
          go_wp2_with fail
          refine (HNX.out _ _ _ HRu.out HRo.out (HG.out.later (B7.out.trans (hS2.mono B7.out.size))).tz).mono ?_
          rintro e w9 ⟨rfl, hb9⟩
          go_wp2_with fail
          refine hK.out _ w9 (hS2.trans (hb9.mono hS2.size)) (fun hS3 => ?_)
          clear hK K hb9
          try simp only [Act.put, List.setIfInBounds_toArray, List.set_cons_zero, List.set_cons_succ]
          refine wpAnyH_take (i := 8) (oi := { dst := some 45, op := _, type := _, pos := _, after := _, guard := _ }) (v := ?_) rfl (by kernel_rfl) (by kernel_rfl) (by kernel_rfl) (fun _ _ _ h => h) (Or.inl ⟨by kernel_rfl, ?_⟩) (by assumption) ?_
          rotate_left
          · (intro w hSw; (try dsimp only at hSw); go_simp); all_goals (with_reducible rfl)
          try simp only [Act.put, List.setIfInBounds_toArray, List.set_cons_zero, List.set_cons_succ]
          refine wpAnyH_take (i := 9) (oi := { dst := some 54, op := _, type := _, pos := _, after := _, guard := _ }) (v := ?_) rfl (by kernel_rfl) (by kernel_rfl) (by kernel_rfl) (fun _ _ _ h => h) (Or.inl ⟨by kernel_rfl, ?_⟩) (by assumption) ?_
          rotate_left
          · (intro w hSw; (try dsimp only at hSw); go_simp); all_goals (with_reducible rfl)
          try simp only [Act.put, List.setIfInBounds_toArray, List.set_cons_zero, List.set_cons_succ]
          refine wpAnyH_take (i := 10) (oi := { dst := some 55, op := _, type := _, pos := _, after := _, guard := _ }) (v := ?_) rfl (by kernel_rfl) (by kernel_rfl) (by kernel_rfl) (fun _ _ _ h => h) (Or.inl ⟨by kernel_rfl, ?_⟩) (by assumption) ?_
          rotate_left
          · (intro w hSw; (try dsimp only at hSw); go_simp); all_goals (with_reducible rfl)
          try simp only [Act.put, List.setIfInBounds_toArray, List.set_cons_zero, List.set_cons_succ]
          refine wpAnyH_ready (rs := [11]) (by kernel_rfl) (by simp) ?_
          refine AllReadyH.cons rfl (fun K hK => ?_) AllReadyH.nil
          rw [if_pos (by kernel_rfl)]
          go_wp2_with fail
          replace HRu := Lib.hid (HRu.out.later (below_alloc (Below.refl _ _) (Nat.le_refl _) (.cells zeroOp 47)))
          replace HRo := Lib.hid (HRo.out.later (below_alloc (Below.refl _ _) (Nat.le_refl _) (.cells zeroOp 47)))
          have HZ := Lib.hid (heap_at' hS3 (.cells zeroOp 47) (w9.heap.size) rfl)
          have HZb : w7.heap.size ≤ w9.heap.size := by have := hS3.size; (try simp at this); omega
          refine hK.out _ _ (hS3.alloc hS3.size _) (fun hS4 => ?_)
          clear hK K
          try simp only [Act.put, List.setIfInBounds_toArray, List.set_cons_zero, List.set_cons_succ]
          refine wpAnyH_ready (rs := [12]) (by kernel_rfl) (by simp) ?_
          refine AllReadyH.cons rfl (fun K hK => ?_) AllReadyH.nil
          rw [if_pos (by kernel_rfl)]
          refine wp_store_row 47 _ _ (by rfl) _ opCells (by rfl) (by rfl) 47 zeroOp HZ.out (by kernel_rfl) (by kernel_rfl) (by kernel_rfl) ?_
          have hSf := Lib.hid (below_one_row _ _ _ _ opCells hS4 HZb)
          refine hK.out _ _ hSf.out (fun hSz => ?_)
          clear hK K
          try simp only [Act.put, List.setIfInBounds_toArray]
          refine wpAnyH_take (i := 13) (oi := { dst := some 13, op := _, type := _, pos := _, after := _, guard := _ }) (v := ?_) rfl (by kernel_rfl) (by kernel_rfl) (by kernel_rfl) (fun _ _ _ h => h) (Or.inl ⟨by kernel_rfl, ?_⟩) (by assumption) ?_
          rotate_left
          · (intro w hSw; (try dsimp only at hSw); go_simp); all_goals (with_reducible rfl)
          try simp only [Act.put]
          refine wpAnyH_done (by kernel_rfl) ?_ _
          go_wp2_with fail
          go_meet
          case rel => exact ⟨_, rfl, rfl, (show Hid _ from ⟨setRow_heap _ _ zeroOp _ _ _ HZ.out, hSf.out⟩)⟩
        · rw [if_pos (by kernel_rfl)]
          go_wp2_with fail
          replace HRu := Lib.hid (HRu.out.later (below_alloc (Below.refl _ _) (Nat.le_refl _) (.cells zeroOp 47)))
          replace HRo := Lib.hid (HRo.out.later (below_alloc (Below.refl _ _) (Nat.le_refl _) (.cells zeroOp 47)))
          have HZ := Lib.hid (heap_at' hS2 (.cells zeroOp 47) (w7.heap.size + 2) (by simp))
          have HZb : w7.heap.size ≤ w7.heap.size + 2 := by have := hS2.size; (try simp at this); omega
          refine hK.out _ _ (hS2.alloc hS2.size _) (fun hS3 => ?_)
          clear hK K
          try simp only [Act.put, List.setIfInBounds_toArray, List.set_cons_zero, List.set_cons_succ]
          refine wpAnyH_ready (rs := [7]) (by kernel_rfl) (by simp) ?_
          refine AllReadyH.cons rfl (fun K hK => ?_) AllReadyH.nil
          rw [if_pos (by kernel_rfl)]
          go_wp2_with fail
          refine (HNX.out _ _ _ HRu.out HRo.out (HG.out.later (B7.out.trans (hS3.mono B7.out.size))).tz).mono ?_
          rintro e w9 ⟨rfl, hb9⟩
          go_wp2_with fail
          replace HZ := Lib.hid ((hb9.block _ (Array.getElem?_eq_some_iff.1 HZ.out).1).trans HZ.out)
          refine hK.out _ w9 (hS3.trans (hb9.mono hS3.size)) (fun hS4 => ?_)
          clear hK K hb9
          try simp only [Act.put, List.setIfInBounds_toArray, List.set_cons_zero, List.set_cons_succ]
          refine wpAnyH_take (i := 8) (oi := { dst := some 45, op := _, type := _, pos := _, after := _, guard := _ }) (v := ?_) rfl (by kernel_rfl) (by kernel_rfl) (by kernel_rfl) (fun _ _ _ h => h) (Or.inl ⟨by kernel_rfl, ?_⟩) (by assumption) ?_
          rotate_left
          · (intro w hSw; (try dsimp only at hSw); go_simp); all_goals (with_reducible rfl)
          try simp only [Act.put, List.setIfInBounds_toArray, List.set_cons_zero, List.set_cons_succ]
          refine wpAnyH_take (i := 9) (oi := { dst := some 54, op := _, type := _, pos := _, after := _, guard := _ }) (v := ?_) rfl (by kernel_rfl) (by kernel_rfl) (by kernel_rfl) (fun _ _ _ h => h) (Or.inl ⟨by kernel_rfl, ?_⟩) (by assumption) ?_
          rotate_left
          · (intro w hSw; (try dsimp only at hSw); go_simp); all_goals (with_reducible rfl)
          try simp only [Act.put, List.setIfInBounds_toArray, List.set_cons_zero, List.set_cons_succ]
          refine wpAnyH_take (i := 10) (oi := { dst := some 55, op := _, type := _, pos := _, after := _, guard := _ }) (v := ?_) rfl (by kernel_rfl) (by kernel_rfl) (by kernel_rfl) (fun _ _ _ h => h) (Or.inl ⟨by kernel_rfl, ?_⟩) (by assumption) ?_
          rotate_left
          · (intro w hSw; (try dsimp only at hSw); go_simp); all_goals (with_reducible rfl)
          try simp only [Act.put, List.setIfInBounds_toArray, List.set_cons_zero, List.set_cons_succ]
          refine wpAnyH_ready (rs := [12]) (by kernel_rfl) (by simp) ?_
          refine AllReadyH.cons rfl (fun K hK => ?_) AllReadyH.nil
          rw [if_pos (by kernel_rfl)]
          refine wp_store_row 47 _ _ (by rfl) _ opCells (by rfl) (by rfl) 47 zeroOp HZ.out (by kernel_rfl) (by kernel_rfl) (by kernel_rfl) ?_
          have hSf := Lib.hid (below_one_row _ _ _ _ opCells hS4 HZb)
          refine hK.out _ _ hSf.out (fun hSz => ?_)
          clear hK K
          try simp only [Act.put, List.setIfInBounds_toArray]
          refine wpAnyH_take (i := 13) (oi := { dst := some 13, op := _, type := _, pos := _, after := _, guard := _ }) (v := ?_) rfl (by kernel_rfl) (by kernel_rfl) (by kernel_rfl) (fun _ _ _ h => h) (Or.inl ⟨by kernel_rfl, ?_⟩) (by assumption) ?_
          rotate_left
          · (intro w hSw; (try dsimp only at hSw); go_simp); all_goals (with_reducible rfl)
          try simp only [Act.put]
          refine wpAnyH_done (by kernel_rfl) ?_ _
          go_wp2_with fail
          go_meet
          case rel => exact ⟨_, rfl, rfl, (show Hid _ from ⟨setRow_heap _ _ zeroOp _ _ _ HZ.out, hSf.out⟩)⟩
      · rw [if_pos (by kernel_rfl)]
        go_wp2_with fail
        replace HRu := Lib.hid (HRu.out.later (below_alloc (Below.refl _ _) (Nat.le_refl _) (.cells zeroOp 47)))
        have HZ := Lib.hid (heap_at' hS1 (.cells zeroOp 47) (w7.heap.size + 1) (by simp))
        have HZb : w7.heap.size ≤ w7.heap.size + 1 := by have := hS1.size; (try simp at this); omega
        refine hK.out _ _ (hS1.alloc hS1.size _) (fun hS2 => ?_)
        clear hK K
        try simp only [Act.put, List.setIfInBounds_toArray, List.set_cons_zero, List.set_cons_succ]
        refine wpAnyH_ready (rs := [6]) (by kernel_rfl) (by simp) ?_
        refine AllReadyH.cons rfl (fun K hK => ?_) AllReadyH.nil
        rw [if_pos (by kernel_rfl)]
        go_wp2_with fail
        replace HRu := Lib.hid (HRu.out.later (below_alloc (Below.refl _ _) (Nat.le_refl _) (.cells rowFive.cells.toArray 61)))
        replace HZ := Lib.hid ((Below.heap_alloc _ (.cells rowFive.cells.toArray 61) _ (Array.getElem?_eq_some_iff.1 HZ.out).1).trans HZ.out)
        have HRo := Lib.hid (rows_at hS2 (w7.heap.size + 2) (by simp))
        refine hK.out _ _ (hS2.alloc hS2.size _) (fun hS3 => ?_)
        clear hK K
        try simp only [Act.put, List.setIfInBounds_toArray, List.set_cons_zero, List.set_cons_succ]
        refine wpAnyH_ready (rs := [7]) (by kernel_rfl) (by simp) ?_
        refine AllReadyH.cons rfl (fun K hK => ?_) AllReadyH.nil
        rw [if_pos (by kernel_rfl)]
        go_wp2_with fail
        refine (HNX.out _ _ _ HRu.out HRo.out (HG.out.later (B7.out.trans (hS3.mono B7.out.size))).tz).mono ?_
        rintro e w9 ⟨rfl, hb9⟩
        go_wp2_with fail
        replace HZ := Lib.hid ((hb9.block _ (Array.getElem?_eq_some_iff.1 HZ.out).1).trans HZ.out)
        refine hK.out _ w9 (hS3.trans (hb9.mono hS3.size)) (fun hS4 => ?_)
        clear hK K hb9
        try simp only [Act.put, List.setIfInBounds_toArray, List.set_cons_zero, List.set_cons_succ]
        refine wpAnyH_take (i := 8) (oi := { dst := some 45, op := _, type := _, pos := _, after := _, guard := _ }) (v := ?_) rfl (by kernel_rfl) (by kernel_rfl) (by kernel_rfl) (fun _ _ _ h => h) (Or.inl ⟨by kernel_rfl, ?_⟩) (by assumption) ?_
        rotate_left
        · (intro w hSw; (try dsimp only at hSw); go_simp); all_goals (with_reducible rfl)
        try simp only [Act.put, List.setIfInBounds_toArray, List.set_cons_zero, List.set_cons_succ]
        refine wpAnyH_take (i := 9) (oi := { dst := some 54, op := _, type := _, pos := _, after := _, guard := _ }) (v := ?_) rfl (by kernel_rfl) (by kernel_rfl) (by kernel_rfl) (fun _ _ _ h => h) (Or.inl ⟨by kernel_rfl, ?_⟩) (by assumption) ?_
        rotate_left
        · (intro w hSw; (try dsimp only at hSw); go_simp); all_goals (with_reducible rfl)
        try simp only [Act.put, List.setIfInBounds_toArray, List.set_cons_zero, List.set_cons_succ]
        refine wpAnyH_take (i := 10) (oi := { dst := some 55, op := _, type := _, pos := _, after := _, guard := _ }) (v := ?_) rfl (by kernel_rfl) (by kernel_rfl) (by kernel_rfl) (fun _ _ _ h => h) (Or.inl ⟨by kernel_rfl, ?_⟩) (by assumption) ?_
        rotate_left
        · (intro w hSw; (try dsimp only at hSw); go_simp); all_goals (with_reducible rfl)
        try simp only [Act.put, List.setIfInBounds_toArray, List.set_cons_zero, List.set_cons_succ]
        refine wpAnyH_ready (rs := [12]) (by kernel_rfl) (by simp) ?_
        refine AllReadyH.cons rfl (fun K hK => ?_) AllReadyH.nil
        rw [if_pos (by kernel_rfl)]
        refine wp_store_row 47 _ _ (by rfl) _ opCells (by rfl) (by rfl) 47 zeroOp HZ.out (by kernel_rfl) (by kernel_rfl) (by kernel_rfl) ?_
        have hSf := Lib.hid (below_one_row _ _ _ _ opCells hS4 HZb)
        refine hK.out _ _ hSf.out (fun hSz => ?_)
        clear hK K
        try simp only [Act.put, List.setIfInBounds_toArray]
        refine wpAnyH_take (i := 13) (oi := { dst := some 13, op := _, type := _, pos := _, after := _, guard := _ }) (v := ?_) rfl (by kernel_rfl) (by kernel_rfl) (by kernel_rfl) (fun _ _ _ h => h) (Or.inl ⟨by kernel_rfl, ?_⟩) (by assumption) ?_
        rotate_left
        · (intro w hSw; (try dsimp only at hSw); go_simp); all_goals (with_reducible rfl)
        try simp only [Act.put]
        refine wpAnyH_done (by kernel_rfl) ?_ _
        go_wp2_with fail
        go_meet
        case rel => exact ⟨_, rfl, rfl, (show Hid _ from ⟨setRow_heap _ _ zeroOp _ _ _ HZ.out, hSf.out⟩)⟩
    · rw [if_pos (by kernel_rfl)]
      go_wp2_with fail
      have HRo := Lib.hid (rows_at hS0 (w7.heap.size) rfl)
      refine hK.out _ _ (hS0.alloc hS0.size _) (fun hS1 => ?_)
      clear hK K
      try simp only [Act.put, List.setIfInBounds_toArray, List.set_cons_zero, List.set_cons_succ]
      refine wpAnyH_ready (rs := [0, 11]) (by kernel_rfl) (by simp) ?_
      refine (AllReadyH.cons rfl (fun K hK => ?_) (AllReadyH.cons rfl (fun K hK => ?_) AllReadyH.nil))
      · rw [if_pos (by kernel_rfl)]
        go_wp2_with fail
        refine (day_any _).mono ?_
        rintro e wd ⟨rfl, rfl⟩
        go_wp2_with fail
        replace HRo := Lib.hid (HRo.out.later (below_alloc (Below.refl _ _) (Nat.le_refl _) (.cells dayR.cells.toArray 34)))
        have HRu := Lib.hid (rules_at hS1 (w7.heap.size + 1) (by simp))
        refine hK.out _ _ (hS1.alloc hS1.size _) (fun hS2 => ?_)
        clear hK K
        try simp only [Act.put, List.setIfInBounds_toArray, List.set_cons_zero, List.set_cons_succ]
        refine wpAnyH_take (i := 1) (oi := { dst := some 47, op := _, type := _, pos := _, after := _, guard := _ }) (v := ?_) rfl (by kernel_rfl) (by kernel_rfl) (by kernel_rfl) (fun _ _ _ h => h) (Or.inl ⟨by kernel_rfl, ?_⟩) (by assumption) ?_
        rotate_left
        · (intro w hSw; (try dsimp only at hSw); go_simp); all_goals (with_reducible rfl)
        try simp only [Act.put, List.setIfInBounds_toArray, List.set_cons_zero, List.set_cons_succ]
        refine wpAnyH_ready (rs := [7, 11]) (by kernel_rfl) (by simp) ?_
        refine (AllReadyH.cons rfl (fun K hK => ?_) (AllReadyH.cons rfl (fun K hK => ?_) AllReadyH.nil))
        · rw [if_pos (by kernel_rfl)]
          go_wp2_with fail
          refine (HNX.out _ _ _ HRu.out HRo.out (HG.out.later (B7.out.trans (hS2.mono B7.out.size))).tz).mono ?_
          rintro e w9 ⟨rfl, hb9⟩
          go_wp2_with fail
          refine hK.out _ w9 (hS2.trans (hb9.mono hS2.size)) (fun hS3 => ?_)
          clear hK K hb9
          try simp only [Act.put, List.setIfInBounds_toArray, List.set_cons_zero, List.set_cons_succ]
          refine wpAnyH_take (i := 8) (oi := { dst := some 45, op := _, type := _, pos := _, after := _, guard := _ }) (v := ?_) rfl (by kernel_rfl) (by kernel_rfl) (by kernel_rfl) (fun _ _ _ h => h) (Or.inl ⟨by kernel_rfl, ?_⟩) (by assumption) ?_
          rotate_left
          · (intro w hSw; (try dsimp only at hSw); go_simp); all_goals (with_reducible rfl)
          try simp only [Act.put, List.setIfInBounds_toArray, List.set_cons_zero, List.set_cons_succ]
          refine wpAnyH_take (i := 9) (oi := { dst := some 54, op := _, type := _, pos := _, after := _, guard := _ }) (v := ?_) rfl (by kernel_rfl) (by kernel_rfl) (by kernel_rfl) (fun _ _ _ h => h) (Or.inl ⟨by kernel_rfl, ?_⟩) (by assumption) ?_
          rotate_left
          · (intro w hSw; (try dsimp only at hSw); go_simp); all_goals (with_reducible rfl)
          try simp only [Act.put, List.setIfInBounds_toArray, List.set_cons_zero, List.set_cons_succ]
          refine wpAnyH_take (i := 10) (oi := { dst := some 55, op := _, type := _, pos := _, after := _, guard := _ }) (v := ?_) rfl (by kernel_rfl) (by kernel_rfl) (by kernel_rfl) (fun _ _ _ h => h) (Or.inl ⟨by kernel_rfl, ?_⟩) (by assumption) ?_
          rotate_left
          · (intro w hSw; (try dsimp only at hSw); go_simp); all_goals (with_reducible rfl)
          try simp only [Act.put, List.setIfInBounds_toArray, List.set_cons_zero, List.set_cons_succ]
          refine wpAnyH_ready (rs := [11]) (by kernel_rfl) (by simp) ?_
          refine AllReadyH.cons rfl (fun K hK => ?_) AllReadyH.nil
          rw [if_pos (by kernel_rfl)]
          go_wp2_with fail
          replace HRu := Lib.hid (HRu.out.later (below_alloc (Below.refl _ _) (Nat.le_refl _) (.cells zeroOp 47)))
          replace HRo := Lib.hid (HRo.out.later (below_alloc (Below.refl _ _) (Nat.le_refl _) (.cells zeroOp 47)))
          have HZ := Lib.hid (heap_at' hS3 (.cells zeroOp 47) (w9.heap.size) rfl)
          have HZb : w7.heap.size ≤ w9.heap.size := by have := hS3.size; (try simp at this); omega
          refine hK.out _ _ (hS3.alloc hS3.size _) (fun hS4 => ?_)
          clear hK K
          try simp only [Act.put, List.setIfInBounds_toArray, List.set_cons_zero, List.set_cons_succ]
          refine wpAnyH_ready (rs := [12]) (by kernel_rfl) (by simp) ?_
          refine AllReadyH.cons rfl (fun K hK => ?_) AllReadyH.nil
          rw [if_pos (by kernel_rfl)]
          refine wp_store_row 47 _ _ (by rfl) _ opCells (by rfl) (by rfl) 47 zeroOp HZ.out (by kernel_rfl) (by kernel_rfl) (by kernel_rfl) ?_
          have hSf := Lib.hid (below_one_row _ _ _ _ opCells hS4 HZb)
          refine hK.out _ _ hSf.out (fun hSz => ?_)
          clear hK K
          try simp only [Act.put, List.setIfInBounds_toArray]
          refine wpAnyH_take (i := 13) (oi := { dst := some 13, op := _, type := _, pos := _, after := _, guard := _ }) (v := ?_) rfl (by kernel_rfl) (by kernel_rfl) (by kernel_rfl) (fun _ _ _ h => h) (Or.inl ⟨by kernel_rfl, ?_⟩) (by assumption) ?_
          rotate_left
          · (intro w hSw; (try dsimp only at hSw); go_simp); all_goals (with_reducible rfl)
          try simp only [Act.put]
          refine wpAnyH_done (by kernel_rfl) ?_ _
          go_wp2_with fail
          go_meet
          case rel => exact ⟨_, rfl, rfl, (show Hid _ from ⟨setRow_heap _ _ zeroOp _ _ _ HZ.out, hSf.out⟩)⟩
        · rw [if_pos (by kernel_rfl)]
          go_wp2_with fail
          replace HRu := Lib.hid (HRu.out.later (below_alloc (Below.refl _ _) (Nat.le_refl _) (.cells zeroOp 47)))
          replace HRo := Lib.hid (HRo.out.later (below_alloc (Below.refl _ _) (Nat.le_refl _) (.cells zeroOp 47)))
          have HZ := Lib.hid (heap_at' hS2 (.cells zeroOp 47) (w7.heap.size + 2) (by simp))
          have HZb : w7.heap.size ≤ w7.heap.size + 2 := by have := hS2.size; (try simp at this); omega
          refine hK.out _ _ (hS2.alloc hS2.size _) (fun hS3 => ?_)
          clear hK K
          try simp only [Act.put, List.setIfInBounds_toArray, List.set_cons_zero, List.set_cons_succ]
          refine wpAnyH_ready (rs := [7]) (by kernel_rfl) (by simp) ?_
          refine AllReadyH.cons rfl (fun K hK => ?_) AllReadyH.nil
          rw [if_pos (by kernel_rfl)]
          go_wp2_with fail
          refine (HNX.out _ _ _ HRu.out HRo.out (HG.out.later (B7.out.trans (hS3.mono B7.out.size))).tz).mono ?_
          rintro e w9 ⟨rfl, hb9⟩
          go_wp2_with fail
          replace HZ := Lib.hid ((hb9.block _ (Array.getElem?_eq_some_iff.1 HZ.out).1).trans HZ.out)
          refine hK.out _ w9 (hS3.trans (hb9.mono hS3.size)) (fun hS4 => ?_)
          clear hK K hb9
          try simp only [Act.put, List.setIfInBounds_toArray, List.set_cons_zero, List.set_cons_succ]
          refine wpAnyH_take (i := 8) (oi := { dst := some 45, op := _, type := _, pos := _, after := _, guard := _ }) (v := ?_) rfl (by kernel_rfl) (by kernel_rfl) (by kernel_rfl) (fun _ _ _ h => h) (Or.inl ⟨by kernel_rfl, ?_⟩) (by assumption) ?_
          rotate_left
          · (intro w hSw; (try dsimp only at hSw); go_simp); all_goals (with_reducible rfl)
          try simp only [Act.put, List.setIfInBounds_toArray, List.set_cons_zero, List.set_cons_succ]
          refine wpAnyH_take (i := 9) (oi := { dst := some 54, op := _, type := _, pos := _, after := _, guard := _ }) (v := ?_) rfl (by kernel_rfl) (by kernel_rfl) (by kernel_rfl) (fun _ _ _ h => h) (Or.inl ⟨by kernel_rfl, ?_⟩) (by assumption) ?_
          rotate_left
          · (intro w hSw; (try dsimp only at hSw); go_simp); all_goals (with_reducible rfl)
          try simp only [Act.put, List.setIfInBounds_toArray, List.set_cons_zero, List.set_cons_succ]
          refine wpAnyH_take (i := 10) (oi := { dst := some 55, op := _, type := _, pos := _, after := _, guard := _ }) (v := ?_) rfl (by kernel_rfl) (by kernel_rfl) (by kernel_rfl) (fun _ _ _ h => h) (Or.inl ⟨by kernel_rfl, ?_⟩) (by assumption) ?_
          rotate_left
          · (intro w hSw; (try dsimp only at hSw); go_simp); all_goals (with_reducible rfl)
          try simp only [Act.put, List.setIfInBounds_toArray, List.set_cons_zero, List.set_cons_succ]
          refine wpAnyH_ready (rs := [12]) (by kernel_rfl) (by simp) ?_
          refine AllReadyH.cons rfl (fun K hK => ?_) AllReadyH.nil
          rw [if_pos (by kernel_rfl)]
          refine wp_store_row 47 _ _ (by rfl) _ opCells (by rfl) (by rfl) 47 zeroOp HZ.out (by kernel_rfl) (by kernel_rfl) (by kernel_rfl) ?_
          have hSf := Lib.hid (below_one_row _ _ _ _ opCells hS4 HZb)
          refine hK.out _ _ hSf.out (fun hSz => ?_)
          clear hK K
          try simp only [Act.put, List.setIfInBounds_toArray]
          refine wpAnyH_take (i := 13) (oi := { dst := some 13, op := _, type := _, pos := _, after := _, guard := _ }) (v := ?_) rfl (by kernel_rfl) (by kernel_rfl) (by kernel_rfl) (fun _ _ _ h => h) (Or.inl ⟨by kernel_rfl, ?_⟩) (by assumption) ?_
          rotate_left
          · (intro w hSw; (try dsimp only at hSw); go_simp); all_goals (with_reducible rfl)
          try simp only [Act.put]
          refine wpAnyH_done (by kernel_rfl) ?_ _
          go_wp2_with fail
          go_meet
          case rel => exact ⟨_, rfl, rfl, (show Hid _ from ⟨setRow_heap _ _ zeroOp _ _ _ HZ.out, hSf.out⟩)⟩
      · rw [if_pos (by kernel_rfl)]
        go_wp2_with fail
        replace HRo := Lib.hid (HRo.out.later (below_alloc (Below.refl _ _) (Nat.le_refl _) (.cells zeroOp 47)))
        have HZ := Lib.hid (heap_at' hS1 (.cells zeroOp 47) (w7.heap.size + 1) (by simp))
        have HZb : w7.heap.size ≤ w7.heap.size + 1 := by have := hS1.size; (try simp at this); omega
        refine hK.out _ _ (hS1.alloc hS1.size _) (fun hS2 => ?_)
        clear hK K
        try simp only [Act.put, List.setIfInBounds_toArray, List.set_cons_zero, List.set_cons_succ]
        refine wpAnyH_ready (rs := [0]) (by kernel_rfl) (by simp) ?_
        refine AllReadyH.cons rfl (fun K hK => ?_) AllReadyH.nil
        rw [if_pos (by kernel_rfl)]
        go_wp2_with fail
        refine (day_any _).mono ?_
        rintro e wd ⟨rfl, rfl⟩
        go_wp2_with fail
        replace HRo := Lib.hid (HRo.out.later (below_alloc (Below.refl _ _) (Nat.le_refl _) (.cells dayR.cells.toArray 34)))
        replace HZ := Lib.hid ((Below.heap_alloc _ (.cells dayR.cells.toArray 34) _ (Array.getElem?_eq_some_iff.1 HZ.out).1).trans HZ.out)
        have HRu := Lib.hid (rules_at hS2 (w7.heap.size + 2) (by simp))
        refine hK.out _ _ (hS2.alloc hS2.size _) (fun hS3 => ?_)
        clear hK K
        try simp only [Act.put, List.setIfInBounds_toArray, List.set_cons_zero, List.set_cons_succ]
        refine wpAnyH_take (i := 1) (oi := { dst := some 47, op := _, type := _, pos := _, after := _, guard := _ }) (v := ?_) rfl (by kernel_rfl) (by kernel_rfl) (by kernel_rfl) (fun _ _ _ h => h) (Or.inl ⟨by kernel_rfl, ?_⟩) (by assumption) ?_
        rotate_left
        · (intro w hSw; (try dsimp only at hSw); go_simp); all_goals (with_reducible rfl)
        try simp only [Act.put, List.setIfInBounds_toArray, List.set_cons_zero, List.set_cons_succ]
        refine wpAnyH_ready (rs := [7]) (by kernel_rfl) (by simp) ?_
        refine AllReadyH.cons rfl (fun K hK => ?_) AllReadyH.nil
        rw [if_pos (by kernel_rfl)]
        go_wp2_with fail
        refine (HNX.out _ _ _ HRu.out HRo.out (HG.out.later (B7.out.trans (hS3.mono B7.out.size))).tz).mono ?_
        rintro e w9 ⟨rfl, hb9⟩
        go_wp2_with fail
        replace HZ := Lib.hid ((hb9.block _ (Array.getElem?_eq_some_iff.1 HZ.out).1).trans HZ.out)
        refine hK.out _ w9 (hS3.trans (hb9.mono hS3.size)) (fun hS4 => ?_)
        clear hK K hb9
        try simp only [Act.put, List.setIfInBounds_toArray, List.set_cons_zero, List.set_cons_succ]
        refine wpAnyH_take (i := 8) (oi := { dst := some 45, op := _, type := _, pos := _, after := _, guard := _ }) (v := ?_) rfl (by kernel_rfl) (by kernel_rfl) (by kernel_rfl) (fun _ _ _ h => h) (Or.inl ⟨by kernel_rfl, ?_⟩) (by assumption) ?_
        rotate_left
        · (intro w hSw; (try dsimp only at hSw); go_simp); all_goals (with_reducible rfl)
        try simp only [Act.put, List.setIfInBounds_toArray, List.set_cons_zero, List.set_cons_succ]
        refine wpAnyH_take (i := 9) (oi := { dst := some 54, op := _, type := _, pos := _, after := _, guard := _ }) (v := ?_) rfl (by kernel_rfl) (by kernel_rfl) (by kernel_rfl) (fun _ _ _ h => h) (Or.inl ⟨by kernel_rfl, ?_⟩) (by assumption) ?_
        rotate_left
        · (intro w hSw; (try dsimp only at hSw); go_simp); all_goals (with_reducible rfl)
        try simp only [Act.put, List.setIfInBounds_toArray, List.set_cons_zero, List.set_cons_succ]
        refine wpAnyH_take (i := 10) (oi := { dst := some 55, op := _, type := _, pos := _, after := _, guard := _ }) (v := ?_) rfl (by kernel_rfl) (by kernel_rfl) (by kernel_rfl) (fun _ _ _ h => h) (Or.inl ⟨by kernel_rfl, ?_⟩) (by assumption) ?_
        rotate_left
        · (intro w hSw; (try dsimp only at hSw); go_simp); all_goals (with_reducible rfl)
        try simp only [Act.put, List.setIfInBounds_toArray, List.set_cons_zero, List.set_cons_succ]
        refine wpAnyH_ready (rs := [12]) (by kernel_rfl) (by simp) ?_
        refine AllReadyH.cons rfl (fun K hK => ?_) AllReadyH.nil
        rw [if_pos (by kernel_rfl)]
        refine wp_store_row 47 _ _ (by rfl) _ opCells (by rfl) (by rfl) 47 zeroOp HZ.out (by kernel_rfl) (by kernel_rfl) (by kernel_rfl) ?_
        have hSf := Lib.hid (below_one_row _ _ _ _ opCells hS4 HZb)
        refine hK.out _ _ hSf.out (fun hSz => ?_)
        clear hK K
        try simp only [Act.put, List.setIfInBounds_toArray]
        refine wpAnyH_take (i := 13) (oi := { dst := some 13, op := _, type := _, pos := _, after := _, guard := _ }) (v := ?_) rfl (by kernel_rfl) (by kernel_rfl) (by kernel_rfl) (fun _ _ _ h => h) (Or.inl ⟨by kernel_rfl, ?_⟩) (by assumption) ?_
        rotate_left
        · (intro w hSw; (try dsimp only at hSw); go_simp); all_goals (with_reducible rfl)
        try simp only [Act.put]
        refine wpAnyH_done (by kernel_rfl) ?_ _
        go_wp2_with fail
        go_meet
        case rel => exact ⟨_, rfl, rfl, (show Hid _ from ⟨setRow_heap _ _ zeroOp _ _ _ HZ.out, hSf.out⟩)⟩
    · rw [if_pos (by kernel_rfl)]
      go_wp2_with fail
      have HZ := Lib.hid (heap_at' hS0 (.cells zeroOp 47) (w7.heap.size) rfl)
      have HZb : w7.heap.size ≤ w7.heap.size := by have := hS0.size; (try simp at this); omega
      refine hK.out _ _ (hS0.alloc hS0.size _) (fun hS1 => ?_)
      clear hK K
      try simp only [Act.put, List.setIfInBounds_toArray, List.set_cons_zero, List.set_cons_succ]
      refine wpAnyH_ready (rs := [0, 6]) (by kernel_rfl) (by simp) ?_
      refine (AllReadyH.cons rfl (fun K hK => ?_) (AllReadyH.cons rfl (fun K hK => ?_) AllReadyH.nil))
      · rw [if_pos (by kernel_rfl)]
        go_wp2_with fail
        refine (day_any _).mono ?_
        rintro e wd ⟨rfl, rfl⟩
        go_wp2_with fail
        replace HZ := Lib.hid ((Below.heap_alloc _ (.cells dayR.cells.toArray 34) _ (Array.getElem?_eq_some_iff.1 HZ.out).1).trans HZ.out)
        have HRu := Lib.hid (rules_at hS1 (w7.heap.size + 1) (by simp))
        refine hK.out _ _ (hS1.alloc hS1.size _) (fun hS2 => ?_)
        clear hK K
        try simp only [Act.put, List.setIfInBounds_toArray, List.set_cons_zero, List.set_cons_succ]
        refine wpAnyH_take (i := 1) (oi := { dst := some 47, op := _, type := _, pos := _, after := _, guard := _ }) (v := ?_) rfl (by kernel_rfl) (by kernel_rfl) (by kernel_rfl) (fun _ _ _ h => h) (Or.inl ⟨by kernel_rfl, ?_⟩) (by assumption) ?_
        rotate_left
        · (intro w hSw; (try dsimp only at hSw); go_simp); all_goals (with_reducible rfl)
        try simp only [Act.put, List.setIfInBounds_toArray, List.set_cons_zero, List.set_cons_succ]
        refine wpAnyH_ready (rs := [6]) (by kernel_rfl) (by simp) ?_
        refine AllReadyH.cons rfl (fun K hK => ?_) AllReadyH.nil
        rw [if_pos (by kernel_rfl)]
        go_wp2_with fail
        replace HRu := Lib.hid (HRu.out.later (below_alloc (Below.refl _ _) (Nat.le_refl _) (.cells rowFive.cells.toArray 61)))
        replace HZ := Lib.hid ((Below.heap_alloc _ (.cells rowFive.cells.toArray 61) _ (Array.getElem?_eq_some_iff.1 HZ.out).1).trans HZ.out)
        have HRo := Lib.hid (rows_at hS2 (w7.heap.size + 2) (by simp))
        refine hK.out _ _ (hS2.alloc hS2.size _) (fun hS3 => ?_)
        clear hK K
        try simp only [Act.put, List.setIfInBounds_toArray, List.set_cons_zero, List.set_cons_succ]
        refine wpAnyH_ready (rs := [7]) (by kernel_rfl) (by simp) ?_
        refine AllReadyH.cons rfl (fun K hK => ?_) AllReadyH.nil
        rw [if_pos (by kernel_rfl)]
        go_wp2_with fail
        refine (HNX.out _ _ _ HRu.out HRo.out (HG.out.later (B7.out.trans (hS3.mono B7.out.size))).tz).mono ?_
        rintro e w9 ⟨rfl, hb9⟩
        go_wp2_with fail
        replace HZ := Lib.hid ((hb9.block _ (Array.getElem?_eq_some_iff.1 HZ.out).1).trans HZ.out)
        refine hK.out _ w9 (hS3.trans (hb9.mono hS3.size)) (fun hS4 => ?_)
        clear hK K hb9
        try simp only [Act.put, List.setIfInBounds_toArray, List.set_cons_zero, List.set_cons_succ]
        refine wpAnyH_take (i := 8) (oi := { dst := some 45, op := _, type := _, pos := _, after := _, guard := _ }) (v := ?_) rfl (by kernel_rfl) (by kernel_rfl) (by kernel_rfl) (fun _ _ _ h => h) (Or.inl ⟨by kernel_rfl, ?_⟩) (by assumption) ?_
        rotate_left
        · (intro w hSw; (try dsimp only at hSw); go_simp); all_goals (with_reducible rfl)
        try simp only [Act.put, List.setIfInBounds_toArray, List.set_cons_zero, List.set_cons_succ]
        refine wpAnyH_take (i := 9) (oi := { dst := some 54, op := _, type := _, pos := _, after := _, guard := _ }) (v := ?_) rfl (by kernel_rfl) (by kernel_rfl) (by kernel_rfl) (fun _ _ _ h => h) (Or.inl ⟨by kernel_rfl, ?_⟩) (by assumption) ?_
        rotate_left
        · (intro w hSw; (try dsimp only at hSw); go_simp); all_goals (with_reducible rfl)
        try simp only [Act.put, List.setIfInBounds_toArray, List.set_cons_zero, List.set_cons_succ]
        refine wpAnyH_take (i := 10) (oi := { dst := some 55, op := _, type := _, pos := _, after := _, guard := _ }) (v := ?_) rfl (by kernel_rfl) (by kernel_rfl) (by kernel_rfl) (fun _ _ _ h => h) (Or.inl ⟨by kernel_rfl, ?_⟩) (by assumption) ?_
        rotate_left
        · (intro w hSw; (try dsimp only at hSw); go_simp); all_goals (with_reducible rfl)
        try simp only [Act.put, List.setIfInBounds_toArray, List.set_cons_zero, List.set_cons_succ]
        refine wpAnyH_ready (rs := [12]) (by kernel_rfl) (by simp) ?_
        refine AllReadyH.cons rfl (fun K hK => ?_) AllReadyH.nil
        rw [if_pos (by kernel_rfl)]
        refine wp_store_row 47 _ _ (by rfl) _ opCells (by rfl) (by rfl) 47 zeroOp HZ.out (by kernel_rfl) (by kernel_rfl) (by kernel_rfl) ?_
        have hSf := Lib.hid (below_one_row _ _ _ _ opCells hS4 HZb)
        refine hK.out _ _ hSf.out (fun hSz => ?_)
        clear hK K
        try simp only [Act.put, List.setIfInBounds_toArray]
        refine wpAnyH_take (i := 13) (oi := { dst := some 13, op := _, type := _, pos := _, after := _, guard := _ }) (v := ?_) rfl (by kernel_rfl) (by kernel_rfl) (by kernel_rfl) (fun _ _ _ h => h) (Or.inl ⟨by kernel_rfl, ?_⟩) (by assumption) ?_
        rotate_left
        · (intro w hSw; (try dsimp only at hSw); go_simp); all_goals (with_reducible rfl)
        try simp only [Act.put]
        refine wpAnyH_done (by kernel_rfl) ?_ _
        go_wp2_with fail
        go_meet
        case rel => exact ⟨_, rfl, rfl, (show Hid _ from ⟨setRow_heap _ _ zeroOp _ _ _ HZ.out, hSf.out⟩)⟩
      · rw [if_pos (by kernel_rfl)]
        go_wp2_with fail
        replace HZ := Lib.hid ((Below.heap_alloc _ (.cells rowFive.cells.toArray 61) _ (Array.getElem?_eq_some_iff.1 HZ.out).1).trans HZ.out)
        have HRo := Lib.hid (rows_at hS1 (w7.heap.size + 1) (by simp))
        refine hK.out _ _ (hS1.alloc hS1.size _) (fun hS2 => ?_)
        clear hK K
        try simp only [Act.put, List.setIfInBounds_toArray, List.set_cons_zero, List.set_cons_succ]
        refine wpAnyH_ready (rs := [0]) (by kernel_rfl) (by simp) ?_
        refine AllReadyH.cons rfl (fun K hK => ?_) AllReadyH.nil
        rw [if_pos (by kernel_rfl)]
        go_wp2_with fail
        refine (day_any _).mono ?_
        rintro e wd ⟨rfl, rfl⟩
        go_wp2_with fail
        replace HRo := Lib.hid (HRo.out.later (below_alloc (Below.refl _ _) (Nat.le_refl _) (.cells dayR.cells.toArray 34)))
        replace HZ := Lib.hid ((Below.heap_alloc _ (.cells dayR.cells.toArray 34) _ (Array.getElem?_eq_some_iff.1 HZ.out).1).trans HZ.out)
        have HRu := Lib.hid (rules_at hS2 (w7.heap.size + 2) (by simp))
        refine hK.out _ _ (hS2.alloc hS2.size _) (fun hS3 => ?_)
        clear hK K
        try simp only [Act.put, List.setIfInBounds_toArray, List.set_cons_zero, List.set_cons_succ]
        refine wpAnyH_take (i := 1) (oi := { dst := some 47, op := _, type := _, pos := _, after := _, guard := _ }) (v := ?_) rfl (by kernel_rfl) (by kernel_rfl) (by kernel_rfl) (fun _ _ _ h => h) (Or.inl ⟨by kernel_rfl, ?_⟩) (by assumption) ?_
        rotate_left
        · (intro w hSw; (try dsimp only at hSw); go_simp); all_goals (with_reducible rfl)
        try simp only [Act.put, List.setIfInBounds_toArray, List.set_cons_zero, List.set_cons_succ]
        refine wpAnyH_ready (rs := [7]) (by kernel_rfl) (by simp) ?_
        refine AllReadyH.cons rfl (fun K hK => ?_) AllReadyH.nil
        rw [if_pos (by kernel_rfl)]
        go_wp2_with fail
        refine (HNX.out _ _ _ HRu.out HRo.out (HG.out.later (B7.out.trans (hS3.mono B7.out.size))).tz).mono ?_
        rintro e w9 ⟨rfl, hb9⟩
        go_wp2_with fail
        replace HZ := Lib.hid ((hb9.block _ (Array.getElem?_eq_some_iff.1 HZ.out).1).trans HZ.out)
        refine hK.out _ w9 (hS3.trans (hb9.mono hS3.size)) (fun hS4 => ?_)
        clear hK K hb9
        try simp only [Act.put, List.setIfInBounds_toArray, List.set_cons_zero, List.set_cons_succ]
        refine wpAnyH_take (i := 8) (oi := { dst := some 45, op := _, type := _, pos := _, after := _, guard := _ }) (v := ?_) rfl (by kernel_rfl) (by kernel_rfl) (by kernel_rfl) (fun _ _ _ h => h) (Or.inl ⟨by kernel_rfl, ?_⟩) (by assumption) ?_
        rotate_left
        · (intro w hSw; (try dsimp only at hSw); go_simp); all_goals (with_reducible rfl)
        try simp only [Act.put, List.setIfInBounds_toArray, List.set_cons_zero, List.set_cons_succ]
        refine wpAnyH_take (i := 9) (oi := { dst := some 54, op := _, type := _, pos := _, after := _, guard := _ }) (v := ?_) rfl (by kernel_rfl) (by kernel_rfl) (by kernel_rfl) (fun _ _ _ h => h) (Or.inl ⟨by kernel_rfl, ?_⟩) (by assumption) ?_
        rotate_left
        · (intro w hSw; (try dsimp only at hSw); go_simp); all_goals (with_reducible rfl)
        try simp only [Act.put, List.setIfInBounds_toArray, List.set_cons_zero, List.set_cons_succ]
        refine wpAnyH_take (i := 10) (oi := { dst := some 55, op := _, type := _, pos := _, after := _, guard := _ }) (v := ?_) rfl (by kernel_rfl) (by kernel_rfl) (by kernel_rfl) (fun _ _ _ h => h) (Or.inl ⟨by kernel_rfl, ?_⟩) (by assumption) ?_
        rotate_left
        · (intro w hSw; (try dsimp only at hSw); go_simp); all_goals (with_reducible rfl)
        try simp only [Act.put, List.setIfInBounds_toArray, List.set_cons_zero, List.set_cons_succ]
        refine wpAnyH_ready (rs := [12]) (by kernel_rfl) (by simp) ?_
        refine AllReadyH.cons rfl (fun K hK => ?_) AllReadyH.nil
        rw [if_pos (by kernel_rfl)]
        refine wp_store_row 47 _ _ (by rfl) _ opCells (by rfl) (by rfl) 47 zeroOp HZ.out (by kernel_rfl) (by kernel_rfl) (by kernel_rfl) ?_
        have hSf := Lib.hid (below_one_row _ _ _ _ opCells hS4 HZb)
        refine hK.out _ _ hSf.out (fun hSz => ?_)
        clear hK K
        try simp only [Act.put, List.setIfInBounds_toArray]
        refine wpAnyH_take (i := 13) (oi := { dst := some 13, op := _, type := _, pos := _, after := _, guard := _ }) (v := ?_) rfl (by kernel_rfl) (by kernel_rfl) (by kernel_rfl) (fun _ _ _ h => h) (Or.inl ⟨by kernel_rfl, ?_⟩) (by assumption) ?_
        rotate_left
        · (intro w hSw; (try dsimp only at hSw); go_simp); all_goals (with_reducible rfl)
        try simp only [Act.put]
        refine wpAnyH_done (by kernel_rfl) ?_ _
        go_wp2_with fail
        go_meet
        case rel => exact ⟨_, rfl, rfl, (show Hid _ from ⟨setRow_heap _ _ zeroOp _ _ _ HZ.out, hSf.out⟩)⟩
  case rest =>
    obtain ⟨B, rfl, rfl, HX⟩ := hcut
    have hB := (Array.getElem?_eq_some_iff.1 HX.out.1).1
    have x0 := cell_of_heap (x := 0) HX.out.1
    have x4 := cell_of_heap (x := 4) HX.out.1
    have x5 := cell_of_heap (x := 5) HX.out.1
    simp [opCells] at x0 x4 x5
    have k7 : wc.cell? ⟨g3, 0, none⟩ = some (.int .i64 5) := cell_later HX.out.2 K7.out
    have hg3 := World.block_lt_of_cell? wc _ k7
    have m0 : wc.cell? ⟨b7, 0, none⟩ = some (.string ⟨#[]⟩) := cell_later HX.out.2 (HL7.out 0 _ rfl)
    have m1 : wc.cell? ⟨b7, 1, none⟩ = some (.string ⟨#[]⟩) := cell_later HX.out.2 (HL7.out 1 _ rfl)
    have m2 : wc.cell? ⟨b7, 2, none⟩ = some (.bool true) := cell_later HX.out.2 (HL7.out 2 _ rfl)
    have m3 : wc.cell? ⟨b7, 3, none⟩ = some (.int .i64 1) := cell_later HX.out.2 (HL7.out 3 _ rfl)
    have m4 : wc.cell? ⟨b7, 4, none⟩ = some (.int .i64 0) := cell_later HX.out.2 (HL7.out 4 _ rfl)
    have m5 : wc.cell? ⟨b7, 5, none⟩ = some (.int .i64 0) := cell_later HX.out.2 (HL7.out 5 _ rfl)
    have hb7 := World.block_lt_of_cell? wc _ m0
    simp only at hg3 hb7
    have HEL := Lib.hid (fun w => eql_rule dayR w)
    have HBW : Hid (Below w.heap.size w wc) := B7.out.trans (HX.out.2.mono B7.out.size)
    go_wp2_with fail
    refine wp_region_held_drew (S := (fun w' => Below wc.heap.size wc w')) (by kernel_rfl) (Below.refl _ _).drew (fun hS0 => ?_)
    refine wpAnyH_take (i := 0) (oi := { dst := some 56, op := _, type := _, pos := _, after := _, guard := _ }) (v := ?_) rfl (by kernel_rfl) (by kernel_rfl) (by kernel_rfl) (fun _ _ _ h => h) (Or.inl ⟨by kernel_rfl, ?_⟩) (by assumption) ?_
    rotate_left
    · (intro w hSw; (try dsimp only at hSw); go_simp); all_goals (with_reducible rfl)
    try simp only [Act.put, List.setIfInBounds_toArray, List.set_cons_zero, List.set_cons_succ]
    refine wpAnyH_take (i := 1) (oi := { dst := some 57, op := _, type := _, pos := _, after := _, guard := _ }) (v := ?_) rfl (by kernel_rfl) (by kernel_rfl) (by kernel_rfl) (fun _ _ _ h => h) (Or.inl ⟨by kernel_rfl, ?_⟩) (by assumption) ?_
    rotate_left
    · (intro w hSw; (try dsimp only at hSw); go_simp); all_goals (with_reducible rfl)
    try simp only [Act.put, List.setIfInBounds_toArray, List.set_cons_zero, List.set_cons_succ]
    refine wpAnyH_take (i := 2) (oi := { dst := some 58, op := _, type := _, pos := _, after := _, guard := _ }) (v := ?_) rfl (by kernel_rfl) (by kernel_rfl) (by kernel_rfl) (fun _ _ _ h => h) (Or.inl ⟨by kernel_rfl, ?_⟩) (by assumption) ?_
    rotate_left
    · (intro w hSw; (try dsimp only at hSw); go_simp); all_goals (with_reducible rfl)
    try simp only [Act.put, List.setIfInBounds_toArray, List.set_cons_zero, List.set_cons_succ]
    refine wpAnyH_take (i := 3) (oi := { dst := some 59, op := _, type := _, pos := _, after := _, guard := _ }) (v := ?_) rfl (by kernel_rfl) (by kernel_rfl) (by kernel_rfl) (fun _ _ _ h => h) (Or.inl ⟨by kernel_rfl, ?_⟩) (by assumption) ?_
    rotate_left
    · (intro w hSw; (try dsimp only at hSw); go_simp); all_goals (with_reducible rfl)
    try simp only [Act.put, List.setIfInBounds_toArray, List.set_cons_zero, List.set_cons_succ]
    refine wpAnyH_take (i := 4) (oi := { dst := some 60, op := _, type := _, pos := _, after := _, guard := _ }) (v := ?_) rfl (by kernel_rfl) (by kernel_rfl) (by kernel_rfl) (fun _ _ _ h => h) (Or.inl ⟨by kernel_rfl, ?_⟩) (by assumption) ?_
    rotate_left
    · (intro w hSw; (try dsimp only at hSw); go_simp); all_goals (with_reducible rfl)
    try simp only [Act.put, List.setIfInBounds_toArray, List.set_cons_zero, List.set_cons_succ]
    refine wpAnyH_take (i := 5) (oi := { dst := some 61, op := _, type := _, pos := _, after := _, guard := _ }) (v := ?_) rfl (by kernel_rfl) (by kernel_rfl) (by kernel_rfl) (fun _ _ _ h => h) (Or.inl ⟨by kernel_rfl, ?_⟩) (by assumption) ?_
    rotate_left
    · (intro w hSw; (try dsimp only at hSw); go_simp); all_goals (with_reducible rfl)
    try simp only [Act.put, List.setIfInBounds_toArray, List.set_cons_zero, List.set_cons_succ]
    refine wpAnyH_take (i := 6) (oi := { dst := some 62, op := _, type := _, pos := _, after := _, guard := _ }) (v := ?_) rfl (by kernel_rfl) (by kernel_rfl) (by kernel_rfl) (fun _ _ _ h => h) (Or.inl ⟨by kernel_rfl, ?_⟩) (by assumption) ?_
    rotate_left
    · (intro w hSw; (try dsimp only at hSw); go_simp); all_goals (with_reducible rfl)
    try simp only [Act.put, List.setIfInBounds_toArray, List.set_cons_zero, List.set_cons_succ]
    refine wpAnyH_take (i := 7) (oi := { dst := some 63, op := _, type := _, pos := _, after := _, guard := _ }) (v := ?_) rfl (by kernel_rfl) (by kernel_rfl) (by kernel_rfl) (fun _ _ _ h => h) (Or.inl ⟨by kernel_rfl, ?_⟩) (by assumption) ?_
    rotate_left
    · (intro w hSw; (try dsimp only at hSw); go_simp); all_goals (with_reducible rfl)
    try simp only [Act.put, List.setIfInBounds_toArray, List.set_cons_zero, List.set_cons_succ]
    refine wpAnyH_take (i := 8) (oi := { dst := some 64, op := _, type := _, pos := _, after := _, guard := _ }) (v := ?_) rfl (by kernel_rfl) (by kernel_rfl) (by kernel_rfl) (fun _ _ _ h => h) (Or.inl ⟨by kernel_rfl, ?_⟩) (by assumption) ?_
    rotate_left
    · (intro w hSw; (try dsimp only at hSw); go_simp); all_goals (with_reducible rfl)
    try simp only [Act.put, List.setIfInBounds_toArray, List.set_cons_zero, List.set_cons_succ]
    refine wpAnyH_take (i := 9) (oi := { dst := some 65, op := _, type := _, pos := _, after := _, guard := _ }) (v := ?_) rfl (by kernel_rfl) (by kernel_rfl) (by kernel_rfl) (fun _ _ _ h => h) (Or.inl ⟨by kernel_rfl, ?_⟩) (by assumption) ?_
    rotate_left
    · (intro w hSw; (try dsimp only at hSw); go_simp); all_goals (with_reducible rfl)
    try simp only [Act.put, List.setIfInBounds_toArray, List.set_cons_zero, List.set_cons_succ]
    refine wpAnyH_take (i := 10) (oi := { dst := some 66, op := _, type := _, pos := _, after := _, guard := _ }) (v := ?_) rfl (by kernel_rfl) (by kernel_rfl) (by kernel_rfl) (fun _ _ _ h => h) (Or.inl ⟨by kernel_rfl, ?_⟩) (by assumption) ?_
    rotate_left
    · (intro w hSw; (try dsimp only at hSw); go_simp); all_goals (with_reducible rfl)
    try simp only [Act.put, List.setIfInBounds_toArray, List.set_cons_zero, List.set_cons_succ]
    refine wpAnyH_take (i := 11) (oi := { dst := some 67, op := _, type := _, pos := _, after := _, guard := _ }) (v := ?_) rfl (by kernel_rfl) (by kernel_rfl) (by kernel_rfl) (fun _ _ _ h => h) (Or.inl ⟨by kernel_rfl, ?_⟩) (by assumption) ?_
    rotate_left
    · (intro w hSw; (try dsimp only at hSw); go_simp); all_goals (with_reducible rfl)
    try simp only [Act.put, List.setIfInBounds_toArray, List.set_cons_zero, List.set_cons_succ]
    refine wpAnyH_take (i := 12) (oi := { dst := some 68, op := _, type := _, pos := _, after := _, guard := _ }) (v := ?_) rfl (by kernel_rfl) (by kernel_rfl) (by kernel_rfl) (fun _ _ _ h => h) (Or.inl ⟨by kernel_rfl, ?_⟩) (by assumption) ?_
    rotate_left
    · (intro w hSw; (try dsimp only at hSw); go_simp); all_goals (with_reducible rfl)
    try simp only [Act.put, List.setIfInBounds_toArray, List.set_cons_zero, List.set_cons_succ]
    refine wpAnyH_take (i := 13) (oi := { dst := some 69, op := _, type := _, pos := _, after := _, guard := _ }) (v := ?_) rfl (by kernel_rfl) (by kernel_rfl) (by kernel_rfl) (fun _ _ _ h => h) (Or.inl ⟨by kernel_rfl, ?_⟩) (by assumption) ?_
    rotate_left
    · (intro w hSw; (try dsimp only at hSw); go_simp); all_goals (with_reducible rfl)
    try simp only [Act.put, List.setIfInBounds_toArray, List.set_cons_zero, List.set_cons_succ]
    refine wpAnyH_take (i := 14) (oi := { dst := some 70, op := _, type := _, pos := _, after := _, guard := _ }) (v := ?_) rfl (by kernel_rfl) (by kernel_rfl) (by kernel_rfl) (fun _ _ _ h => h) (Or.inl ⟨by kernel_rfl, ?_⟩) (by assumption) ?_
    rotate_left
    · (intro w hSw; (try dsimp only at hSw); go_simp); all_goals (with_reducible rfl)
    try simp only [Act.put, List.setIfInBounds_toArray, List.set_cons_zero, List.set_cons_succ]
    refine wpAnyH_take (i := 15) (oi := { dst := some 71, op := _, type := _, pos := _, after := _, guard := _ }) (v := ?_) rfl (by kernel_rfl) (by kernel_rfl) (by kernel_rfl) (fun _ _ _ h => h) (Or.inl ⟨by kernel_rfl, ?_⟩) (by assumption) ?_
    rotate_left
    · (intro w hSw; (try dsimp only at hSw); have q0 := cell_later hSw k7; go_simp); all_goals (with_reducible rfl)
    try simp only [Act.put, List.setIfInBounds_toArray, List.set_cons_zero, List.set_cons_succ]
    refine wpAnyH_take (i := 16) (oi := { dst := some 72, op := _, type := _, pos := _, after := _, guard := _ }) (v := ?_) rfl (by kernel_rfl) (by kernel_rfl) (by kernel_rfl) (fun _ _ _ h => h) (Or.inl ⟨by kernel_rfl, ?_⟩) (by assumption) ?_
    rotate_left
    · (intro w hSw; (try dsimp only at hSw); go_simp); all_goals (with_reducible rfl)
    try simp only [Act.put, List.setIfInBounds_toArray, List.set_cons_zero, List.set_cons_succ]
    refine wpAnyH_take (i := 17) (oi := { dst := some 73, op := _, type := _, pos := _, after := _, guard := _ }) (v := ?_) rfl (by kernel_rfl) (by kernel_rfl) (by kernel_rfl) (fun _ _ _ h => h) (Or.inl ⟨by kernel_rfl, ?_⟩) (by assumption) ?_
    rotate_left
    · (intro w hSw; (try dsimp only at hSw); go_simp); all_goals (with_reducible rfl)
    try simp only [Act.put, List.setIfInBounds_toArray, List.set_cons_zero, List.set_cons_succ]
    refine wpAnyH_take (i := 18) (oi := { dst := some 74, op := _, type := _, pos := _, after := _, guard := _ }) (v := ?_) rfl (by kernel_rfl) (by kernel_rfl) (by kernel_rfl) (fun _ _ _ h => h) (Or.inl ⟨by kernel_rfl, ?_⟩) (by assumption) ?_
    rotate_left
    · (intro w hSw; (try dsimp only at hSw); go_simp); all_goals (with_reducible rfl)
    try simp only [Act.put, List.setIfInBounds_toArray, List.set_cons_zero, List.set_cons_succ]
    refine wpAnyH_take (i := 19) (oi := { dst := some 75, op := _, type := _, pos := _, after := _, guard := _ }) (v := ?_) rfl (by kernel_rfl) (by kernel_rfl) (by kernel_rfl) (fun _ _ _ h => h) (Or.inl ⟨by kernel_rfl, ?_⟩) (by assumption) ?_
    rotate_left
    · (intro w hSw; (try dsimp only at hSw); go_simp); all_goals (with_reducible rfl)
    try simp only [Act.put, List.setIfInBounds_toArray, List.set_cons_zero, List.set_cons_succ]
    refine wpAnyH_take (i := 20) (oi := { dst := some 76, op := _, type := _, pos := _, after := _, guard := _ }) (v := ?_) rfl (by kernel_rfl) (by kernel_rfl) (by kernel_rfl) (fun _ _ _ h => h) (Or.inl ⟨by kernel_rfl, ?_⟩) (by assumption) ?_
    rotate_left
    · (intro w hSw; (try dsimp only at hSw); go_simp); all_goals (with_reducible rfl)
    try simp only [Act.put, List.setIfInBounds_toArray, List.set_cons_zero, List.set_cons_succ]
    refine wpAnyH_take (i := 21) (oi := { dst := some 77, op := _, type := _, pos := _, after := _, guard := _ }) (v := ?_) rfl (by kernel_rfl) (by kernel_rfl) (by kernel_rfl) (fun _ _ _ h => h) (Or.inl ⟨by kernel_rfl, ?_⟩) (by assumption) ?_
    rotate_left
    · (intro w hSw; (try dsimp only at hSw); go_simp); all_goals (with_reducible rfl)
    try simp only [Act.put, List.setIfInBounds_toArray, List.set_cons_zero, List.set_cons_succ]
    refine wpAnyH_take (i := 22) (oi := { dst := some 78, op := _, type := _, pos := _, after := _, guard := _ }) (v := ?_) rfl (by kernel_rfl) (by kernel_rfl) (by kernel_rfl) (fun _ _ _ h => h) (Or.inl ⟨by kernel_rfl, ?_⟩) (by assumption) ?_
    rotate_left
    · (intro w hSw; (try dsimp only at hSw); go_simp); all_goals (with_reducible rfl)
    try simp only [Act.put, List.setIfInBounds_toArray, List.set_cons_zero, List.set_cons_succ]
    refine wpAnyH_take (i := 23) (oi := { dst := some 79, op := _, type := _, pos := _, after := _, guard := _ }) (v := ?_) rfl (by kernel_rfl) (by kernel_rfl) (by kernel_rfl) (fun _ _ _ h => h) (Or.inl ⟨by kernel_rfl, ?_⟩) (by assumption) ?_
    rotate_left
    · (intro w hSw; (try dsimp only at hSw); go_simp); all_goals (with_reducible rfl)
    try simp only [Act.put, List.setIfInBounds_toArray, List.set_cons_zero, List.set_cons_succ]
    refine wpAnyH_take (i := 24) (oi := { dst := some 80, op := _, type := _, pos := _, after := _, guard := _ }) (v := ?_) rfl (by kernel_rfl) (by kernel_rfl) (by kernel_rfl) (fun _ _ _ h => h) (Or.inl ⟨by kernel_rfl, ?_⟩) (by assumption) ?_
    rotate_left
    · (intro w hSw; (try dsimp only at hSw); go_simp); all_goals (with_reducible rfl)
    try simp only [Act.put, List.setIfInBounds_toArray, List.set_cons_zero, List.set_cons_succ]
    refine wpAnyH_take (i := 25) (oi := { dst := some 81, op := _, type := _, pos := _, after := _, guard := _ }) (v := ?_) rfl (by kernel_rfl) (by kernel_rfl) (by kernel_rfl) (fun _ _ _ h => h) (Or.inl ⟨by kernel_rfl, ?_⟩) (by assumption) ?_
    rotate_left
    · (intro w hSw; (try dsimp only at hSw); go_simp); all_goals (with_reducible rfl)
    try simp only [Act.put, List.setIfInBounds_toArray, List.set_cons_zero, List.set_cons_succ]
    refine wpAnyH_take (i := 26) (oi := { dst := some 82, op := _, type := _, pos := _, after := _, guard := _ }) (v := ?_) rfl (by kernel_rfl) (by kernel_rfl) (by kernel_rfl) (fun _ _ _ h => h) (Or.inl ⟨by kernel_rfl, ?_⟩) (by assumption) ?_
    rotate_left
    · (intro w hSw; (try dsimp only at hSw); go_simp); all_goals (with_reducible rfl)
    try simp only [Act.put, List.setIfInBounds_toArray, List.set_cons_zero, List.set_cons_succ]
    refine wpAnyH_take (i := 27) (oi := { dst := some 83, op := _, type := _, pos := _, after := _, guard := _ }) (v := ?_) rfl (by kernel_rfl) (by kernel_rfl) (by kernel_rfl) (fun _ _ _ h => h) (Or.inl ⟨by kernel_rfl, ?_⟩) (by assumption) ?_
    rotate_left
    · (intro w hSw; (try dsimp only at hSw); go_simp); all_goals (with_reducible rfl)
    try simp only [Act.put, List.setIfInBounds_toArray, List.set_cons_zero, List.set_cons_succ]
    refine wpAnyH_take (i := 28) (oi := { dst := some 84, op := _, type := _, pos := _, after := _, guard := _ }) (v := ?_) rfl (by kernel_rfl) (by kernel_rfl) (by kernel_rfl) (fun _ _ _ h => h) (Or.inl ⟨by kernel_rfl, ?_⟩) (by assumption) ?_
    rotate_left
    · (intro w hSw; (try dsimp only at hSw); go_simp); all_goals (with_reducible rfl)
    try simp only [Act.put, List.setIfInBounds_toArray, List.set_cons_zero, List.set_cons_succ]
    refine wpAnyH_take (i := 29) (oi := { dst := some 85, op := _, type := _, pos := _, after := _, guard := _ }) (v := ?_) rfl (by kernel_rfl) (by kernel_rfl) (by kernel_rfl) (fun _ _ _ h => h) (Or.inl ⟨by kernel_rfl, ?_⟩) (by assumption) ?_
    rotate_left
    · (intro w hSw; (try dsimp only at hSw); go_simp); all_goals (with_reducible rfl)
    try simp only [Act.put, List.setIfInBounds_toArray, List.set_cons_zero, List.set_cons_succ]
    refine wpAnyH_take (i := 30) (oi := { dst := some 86, op := _, type := _, pos := _, after := _, guard := _ }) (v := ?_) rfl (by kernel_rfl) (by kernel_rfl) (by kernel_rfl) (fun _ _ _ h => h) (Or.inl ⟨by kernel_rfl, ?_⟩) (by assumption) ?_
    rotate_left
    · (intro w hSw; (try dsimp only at hSw); go_simp); all_goals (with_reducible rfl)
    try simp only [Act.put, List.setIfInBounds_toArray, List.set_cons_zero, List.set_cons_succ]
    refine wpAnyH_take (i := 31) (oi := { dst := some 87, op := _, type := _, pos := _, after := _, guard := _ }) (v := ?_) rfl (by kernel_rfl) (by kernel_rfl) (by kernel_rfl) (fun _ _ _ h => h) (Or.inl ⟨by kernel_rfl, ?_⟩) (by assumption) ?_
    rotate_left
    · (intro w hSw; (try dsimp only at hSw); go_simp); all_goals (with_reducible rfl)
    try simp only [Act.put, List.setIfInBounds_toArray, List.set_cons_zero, List.set_cons_succ]
    refine wpAnyH_take (i := 32) (oi := { dst := some 88, op := _, type := _, pos := _, after := _, guard := _ }) (v := ?_) rfl (by kernel_rfl) (by kernel_rfl) (by kernel_rfl) (fun _ _ _ h => h) (Or.inl ⟨by kernel_rfl, ?_⟩) (by assumption) ?_
    rotate_left
    · (intro w hSw; (try dsimp only at hSw); go_simp); all_goals (with_reducible rfl)
    try simp only [Act.put, List.setIfInBounds_toArray, List.set_cons_zero, List.set_cons_succ]
    refine wpAnyH_take (i := 33) (oi := { dst := some 89, op := _, type := _, pos := _, after := _, guard := _ }) (v := ?_) rfl (by kernel_rfl) (by kernel_rfl) (by kernel_rfl) (fun _ _ _ h => h) (Or.inl ⟨by kernel_rfl, ?_⟩) (by assumption) ?_
    rotate_left
    · (intro w hSw; (try dsimp only at hSw); go_simp); all_goals (with_reducible rfl)
    try simp only [Act.put, List.setIfInBounds_toArray, List.set_cons_zero, List.set_cons_succ]
    refine wpAnyH_take (i := 34) (oi := { dst := some 90, op := _, type := _, pos := _, after := _, guard := _ }) (v := ?_) rfl (by kernel_rfl) (by kernel_rfl) (by kernel_rfl) (fun _ _ _ h => h) (Or.inl ⟨by kernel_rfl, ?_⟩) (by assumption) ?_
    rotate_left
    · (intro w hSw; (try dsimp only at hSw); go_simp); all_goals (with_reducible rfl)
    try simp only [Act.put, List.setIfInBounds_toArray, List.set_cons_zero, List.set_cons_succ]
    refine wpAnyH_take (i := 35) (oi := { dst := some 91, op := _, type := _, pos := _, after := _, guard := _ }) (v := ?_) rfl (by kernel_rfl) (by kernel_rfl) (by kernel_rfl) (fun _ _ _ h => h) (Or.inl ⟨by kernel_rfl, ?_⟩) (by assumption) ?_
    rotate_left
    · (intro w hSw; (try dsimp only at hSw); go_simp); all_goals (with_reducible rfl)
    try simp only [Act.put, List.setIfInBounds_toArray, List.set_cons_zero, List.set_cons_succ]
    refine wpAnyH_take (i := 36) (oi := { dst := some 92, op := _, type := _, pos := _, after := _, guard := _ }) (v := ?_) rfl (by kernel_rfl) (by kernel_rfl) (by kernel_rfl) (fun _ _ _ h => h) (Or.inl ⟨by kernel_rfl, ?_⟩) (by assumption) ?_
    rotate_left
    · (intro w hSw; (try dsimp only at hSw); go_simp); all_goals (with_reducible rfl)
    try simp only [Act.put, List.setIfInBounds_toArray, List.set_cons_zero, List.set_cons_succ]
    refine wpAnyH_take (i := 37) (oi := { dst := some 93, op := _, type := _, pos := _, after := _, guard := _ }) (v := ?_) rfl (by kernel_rfl) (by kernel_rfl) (by kernel_rfl) (fun _ _ _ h => h) (Or.inl ⟨by kernel_rfl, ?_⟩) (by assumption) ?_
    rotate_left
    · (intro w hSw; (try dsimp only at hSw); go_simp); all_goals (with_reducible rfl)
    try simp only [Act.put, List.setIfInBounds_toArray, List.set_cons_zero, List.set_cons_succ]
    refine wpAnyH_take (i := 38) (oi := { dst := some 94, op := _, type := _, pos := _, after := _, guard := _ }) (v := ?_) rfl (by kernel_rfl) (by kernel_rfl) (by kernel_rfl) (fun _ _ _ h => h) (Or.inl ⟨by kernel_rfl, ?_⟩) (by assumption) ?_
    rotate_left
    · (intro w hSw; (try dsimp only at hSw); go_simp); all_goals (with_reducible rfl)
    try simp only [Act.put, List.setIfInBounds_toArray, List.set_cons_zero, List.set_cons_succ]
    refine wpAnyH_take (i := 39) (oi := { dst := some 95, op := _, type := _, pos := _, after := _, guard := _ }) (v := ?_) rfl (by kernel_rfl) (by kernel_rfl) (by kernel_rfl) (fun _ _ _ h => h) (Or.inl ⟨by kernel_rfl, ?_⟩) (by assumption) ?_
    rotate_left
    · (intro w hSw; (try dsimp only at hSw); go_simp); all_goals (with_reducible rfl)
    try simp only [Act.put, List.setIfInBounds_toArray, List.set_cons_zero, List.set_cons_succ]
    refine wpAnyH_take (i := 40) (oi := { dst := some 96, op := _, type := _, pos := _, after := _, guard := _ }) (v := ?_) rfl (by kernel_rfl) (by kernel_rfl) (by kernel_rfl) (fun _ _ _ h => h) (Or.inl ⟨by kernel_rfl, ?_⟩) (by assumption) ?_
    rotate_left
    · (intro w hSw; (try dsimp only at hSw); go_simp); all_goals (with_reducible rfl)
    try simp only [Act.put, List.setIfInBounds_toArray, List.set_cons_zero, List.set_cons_succ]
    refine wpAnyH_take (i := 41) (oi := { dst := some 97, op := _, type := _, pos := _, after := _, guard := _ }) (v := ?_) rfl (by kernel_rfl) (by kernel_rfl) (by kernel_rfl) (fun _ _ _ h => h) (Or.inl ⟨by kernel_rfl, ?_⟩) (by assumption) ?_
    rotate_left
    · (intro w hSw; (try dsimp only at hSw); go_simp); all_goals (with_reducible rfl)
    try simp only [Act.put, List.setIfInBounds_toArray, List.set_cons_zero, List.set_cons_succ]
    refine wpAnyH_take (i := 42) (oi := { dst := some 98, op := _, type := _, pos := _, after := _, guard := _ }) (v := ?_) rfl (by kernel_rfl) (by kernel_rfl) (by kernel_rfl) (fun _ _ _ h => h) (Or.inl ⟨by kernel_rfl, ?_⟩) (by assumption) ?_
    rotate_left
    · (intro w hSw; (try dsimp only at hSw); go_simp); all_goals (with_reducible rfl)
    try simp only [Act.put, List.setIfInBounds_toArray, List.set_cons_zero, List.set_cons_succ]
    refine wpAnyH_take (i := 43) (oi := { dst := some 99, op := _, type := _, pos := _, after := _, guard := _ }) (v := ?_) rfl (by kernel_rfl) (by kernel_rfl) (by kernel_rfl) (fun _ _ _ h => h) (Or.inl ⟨by kernel_rfl, ?_⟩) (by assumption) ?_
    rotate_left
    · (intro w hSw; (try dsimp only at hSw); go_simp); all_goals (with_reducible rfl)
    try simp only [Act.put, List.setIfInBounds_toArray, List.set_cons_zero, List.set_cons_succ]
    refine wpAnyH_take (i := 44) (oi := { dst := some 100, op := _, type := _, pos := _, after := _, guard := _ }) (v := ?_) rfl (by kernel_rfl) (by kernel_rfl) (by kernel_rfl) (fun _ _ _ h => h) (Or.inl ⟨by kernel_rfl, ?_⟩) (by assumption) ?_
    rotate_left
    · (intro w hSw; (try dsimp only at hSw); go_simp); all_goals (with_reducible rfl)
    try simp only [Act.put, List.setIfInBounds_toArray, List.set_cons_zero, List.set_cons_succ]
    refine wpAnyH_take (i := 45) (oi := { dst := some 101, op := _, type := _, pos := _, after := _, guard := _ }) (v := ?_) rfl (by kernel_rfl) (by kernel_rfl) (by kernel_rfl) (fun _ _ _ h => h) (Or.inl ⟨by kernel_rfl, ?_⟩) (by assumption) ?_
    rotate_left
    · (intro w hSw; (try dsimp only at hSw); go_simp); all_goals (with_reducible rfl)
    try simp only [Act.put, List.setIfInBounds_toArray, List.set_cons_zero, List.set_cons_succ]
    refine wpAnyH_take (i := 46) (oi := { dst := some 102, op := _, type := _, pos := _, after := _, guard := _ }) (v := ?_) rfl (by kernel_rfl) (by kernel_rfl) (by kernel_rfl) (fun _ _ _ h => h) (Or.inl ⟨by kernel_rfl, ?_⟩) (by assumption) ?_
    rotate_left
    · (intro w hSw; (try dsimp only at hSw); have q0 := cell_later hSw m0; have q1 := cell_later hSw m1; have q2 := cell_later hSw m2; have q3 := cell_later hSw m3; have q4 := cell_later hSw m4; have q5 := cell_later hSw m5; go_simp); all_goals (with_reducible rfl)
    try simp only [Act.put, List.setIfInBounds_toArray, List.set_cons_zero, List.set_cons_succ]
    refine wpAnyH_ready (rs := [47]) (by kernel_rfl) (by simp) ?_
    refine AllReadyH.cons rfl (fun K hK => ?_) AllReadyH.nil
    rw [if_pos (by kernel_rfl)]
    go_wp2_with fail
    refine (day_any _).mono ?_
    rintro e wd ⟨rfl, rfl⟩
    go_wp2_with fail
    refine hK.out _ _ (hS0.alloc hS0.size _) (fun hS1 => ?_)
    clear hK K
    try simp only [Act.put, List.setIfInBounds_toArray, List.set_cons_zero, List.set_cons_succ]
    refine wpAnyH_take (i := 48) (oi := { dst := some 104, op := _, type := _, pos := _, after := _, guard := _ }) (v := ?_) rfl (by kernel_rfl) (by kernel_rfl) (by kernel_rfl) (fun _ _ _ h => h) (Or.inl ⟨by kernel_rfl, ?_⟩) (by assumption) ?_
    rotate_left
    · (intro w hSw; (try dsimp only at hSw); go_simp); all_goals (with_reducible rfl)
    try simp only [Act.put, List.setIfInBounds_toArray, List.set_cons_zero, List.set_cons_succ]
    refine wpAnyH_ready (rs := [49]) (by kernel_rfl) (by simp) ?_
    refine AllReadyH.cons rfl (fun K hK => ?_) AllReadyH.nil
    rw [if_pos (by kernel_rfl)]
    simp only [RuleV.cells, dayR]
    go_wp2_with fail
    refine hK.out _ _ hS1 (fun hS2 => ?_)
    clear hK K
    try simp only [Act.put, List.setIfInBounds_toArray, List.set_cons_zero, List.set_cons_succ]
    refine wpAnyH_take (i := 50) (oi := { dst := some 106, op := _, type := _, pos := _, after := _, guard := _ }) (v := ?_) rfl (by kernel_rfl) (by kernel_rfl) (by kernel_rfl) (fun _ _ _ h => h) (Or.inl ⟨by kernel_rfl, ?_⟩) (by assumption) ?_
    rotate_left
    · (intro w hSw; (try dsimp only at hSw); have hel := HEL.out w; simp only [RuleV.ag, dayR] at hel; go_simp); all_goals (with_reducible rfl)
    try simp only [Act.put, List.setIfInBounds_toArray, List.set_cons_zero, List.set_cons_succ]
    refine wpAnyH_take (i := 51) (oi := { dst := some 107, op := _, type := _, pos := _, after := _, guard := _ }) (v := ?_) rfl (by kernel_rfl) (by kernel_rfl) (by kernel_rfl) (fun _ _ _ h => h) (Or.inl ⟨by kernel_rfl, ?_⟩) (by assumption) ?_
    rotate_left
    · (intro w hSw; (try dsimp only at hSw); go_simp); all_goals (with_reducible rfl)
    try simp only [Act.put, List.setIfInBounds_toArray, List.set_cons_zero, List.set_cons_succ]
    refine wpAnyH_take (i := 52) (oi := { dst := some 108, op := _, type := _, pos := _, after := _, guard := _ }) (v := ?_) rfl (by kernel_rfl) (by kernel_rfl) (by kernel_rfl) (fun _ _ _ h => h) (Or.inl ⟨by kernel_rfl, ?_⟩) (by assumption) ?_
    rotate_left
    · (intro w hSw; (try dsimp only at hSw); go_simp); all_goals (with_reducible rfl)
    try simp only [Act.put, List.setIfInBounds_toArray, List.set_cons_zero, List.set_cons_succ]
    refine wpAnyH_take (i := 53) (oi := { dst := some 109, op := _, type := _, pos := _, after := _, guard := _ }) (v := ?_) rfl (by kernel_rfl) (by kernel_rfl) (by kernel_rfl) (fun _ _ _ h => h) (Or.inl ⟨by kernel_rfl, ?_⟩) (by assumption) ?_
    rotate_left
    · (intro w hSw; (try dsimp only at hSw); go_simp); all_goals (with_reducible rfl)
    try simp only [Act.put, List.setIfInBounds_toArray, List.set_cons_zero, List.set_cons_succ]
    refine wpAnyH_take (i := 54) (oi := { dst := some 110, op := _, type := _, pos := _, after := _, guard := _ }) (v := ?_) rfl (by kernel_rfl) (by kernel_rfl) (by kernel_rfl) (fun _ _ _ h => h) (Or.inl ⟨by kernel_rfl, ?_⟩) (by assumption) ?_
    rotate_left
    · (intro w hSw; (try dsimp only at hSw); go_simp); all_goals (with_reducible rfl)
    try simp only [Act.put, List.setIfInBounds_toArray, List.set_cons_zero, List.set_cons_succ]
    refine wpAnyH_take (i := 55) (oi := { dst := some 111, op := _, type := _, pos := _, after := _, guard := _ }) (v := ?_) rfl (by kernel_rfl) (by kernel_rfl) (by kernel_rfl) (fun _ _ _ h => h) (Or.inl ⟨by kernel_rfl, ?_⟩) (by assumption) ?_
    rotate_left
    · (intro w hSw; (try dsimp only at hSw); go_simp); all_goals (with_reducible rfl)
    try simp only [Act.put, List.setIfInBounds_toArray, List.set_cons_zero, List.set_cons_succ]
    refine wpAnyH_take (i := 56) (oi := { dst := some 112, op := _, type := _, pos := _, after := _, guard := _ }) (v := ?_) rfl (by kernel_rfl) (by kernel_rfl) (by kernel_rfl) (fun _ _ _ h => h) (Or.inl ⟨by kernel_rfl, ?_⟩) (by assumption) ?_
    rotate_left
    · (intro w hSw; (try dsimp only at hSw); go_simp); all_goals (with_reducible rfl)
    try simp only [Act.put, List.setIfInBounds_toArray, List.set_cons_zero, List.set_cons_succ]
    refine wpAnyH_take (i := 57) (oi := { dst := some 113, op := _, type := _, pos := _, after := _, guard := _ }) (v := ?_) rfl (by kernel_rfl) (by kernel_rfl) (by kernel_rfl) (fun _ _ _ h => h) (Or.inl ⟨by kernel_rfl, ?_⟩) (by assumption) ?_
    rotate_left
    · (intro w hSw; (try dsimp only at hSw); have q0 := cell_later hSw x0; go_simp); all_goals (with_reducible rfl)
    try simp only [Act.put, List.setIfInBounds_toArray, List.set_cons_zero, List.set_cons_succ]
    refine wpAnyH_take (i := 58) (oi := { dst := some 114, op := _, type := _, pos := _, after := _, guard := _ }) (v := ?_) rfl (by kernel_rfl) (by kernel_rfl) (by kernel_rfl) (fun _ _ _ h => h) (Or.inl ⟨by kernel_rfl, ?_⟩) (by assumption) ?_
    rotate_left
    · (intro w hSw; (try dsimp only at hSw); go_simp); all_goals (with_reducible rfl)
    try simp only [Act.put, List.setIfInBounds_toArray, List.set_cons_zero, List.set_cons_succ]
    refine wpAnyH_take (i := 59) (oi := { dst := some 115, op := _, type := _, pos := _, after := _, guard := _ }) (v := ?_) rfl (by kernel_rfl) (by kernel_rfl) (by kernel_rfl) (fun _ _ _ h => h) (Or.inl ⟨by kernel_rfl, ?_⟩) (by assumption) ?_
    rotate_left
    · (intro w hSw; (try dsimp only at hSw); go_simp); all_goals (with_reducible rfl)
    try simp only [Act.put, List.setIfInBounds_toArray, List.set_cons_zero, List.set_cons_succ]
    refine wpAnyH_take (i := 60) (oi := { dst := some 116, op := _, type := _, pos := _, after := _, guard := _ }) (v := ?_) rfl (by kernel_rfl) (by kernel_rfl) (by kernel_rfl) (fun _ _ _ h => h) (Or.inl ⟨by kernel_rfl, ?_⟩) (by assumption) ?_
    rotate_left
    · (intro w hSw; (try dsimp only at hSw); go_simp); all_goals (with_reducible rfl)
    try simp only [Act.put, List.setIfInBounds_toArray, List.set_cons_zero, List.set_cons_succ]
    refine wpAnyH_take (i := 61) (oi := { dst := some 117, op := _, type := _, pos := _, after := _, guard := _ }) (v := ?_) rfl (by kernel_rfl) (by kernel_rfl) (by kernel_rfl) (fun _ _ _ h => h) (Or.inl ⟨by kernel_rfl, ?_⟩) (by assumption) ?_
    rotate_left
    · (intro w hSw; (try dsimp only at hSw); go_simp); all_goals (with_reducible rfl)
    try simp only [Act.put, List.setIfInBounds_toArray, List.set_cons_zero, List.set_cons_succ]
    refine wpAnyH_take (i := 62) (oi := { dst := some 118, op := _, type := _, pos := _, after := _, guard := _ }) (v := ?_) rfl (by kernel_rfl) (by kernel_rfl) (by kernel_rfl) (fun _ _ _ h => h) (Or.inl ⟨by kernel_rfl, ?_⟩) (by assumption) ?_
    rotate_left
    · (intro w hSw; (try dsimp only at hSw); have q0 := cell_later hSw x4; go_simp); all_goals (with_reducible rfl)
    try simp only [Act.put, List.setIfInBounds_toArray, List.set_cons_zero, List.set_cons_succ]
    refine wpAnyH_take (i := 63) (oi := { dst := some 119, op := _, type := _, pos := _, after := _, guard := _ }) (v := ?_) rfl (by kernel_rfl) (by kernel_rfl) (by kernel_rfl) (fun _ _ _ h => h) (Or.inl ⟨by kernel_rfl, ?_⟩) (by assumption) ?_
    rotate_left
    · (intro w hSw; (try dsimp only at hSw); go_simp); all_goals (with_reducible rfl)
    try simp only [Act.put, List.setIfInBounds_toArray, List.set_cons_zero, List.set_cons_succ]
    refine wpAnyH_take (i := 64) (oi := { dst := some 120, op := _, type := _, pos := _, after := _, guard := _ }) (v := ?_) rfl (by kernel_rfl) (by kernel_rfl) (by kernel_rfl) (fun _ _ _ h => h) (Or.inl ⟨by kernel_rfl, ?_⟩) (by assumption) ?_
    rotate_left
    · (intro w hSw; (try dsimp only at hSw); go_simp); all_goals (with_reducible rfl)
    try simp only [Act.put, List.setIfInBounds_toArray, List.set_cons_zero, List.set_cons_succ]
    refine wpAnyH_take (i := 65) (oi := { dst := some 121, op := _, type := _, pos := _, after := _, guard := _ }) (v := ?_) rfl (by kernel_rfl) (by kernel_rfl) (by kernel_rfl) (fun _ _ _ h => h) (Or.inl ⟨by kernel_rfl, ?_⟩) (by assumption) ?_
    rotate_left
    · (intro w hSw; (try dsimp only at hSw); go_simp); all_goals (with_reducible rfl)
    try simp only [Act.put, List.setIfInBounds_toArray, List.set_cons_zero, List.set_cons_succ]
    refine wpAnyH_take (i := 66) (oi := { dst := some 122, op := _, type := _, pos := _, after := _, guard := _ }) (v := ?_) rfl (by kernel_rfl) (by kernel_rfl) (by kernel_rfl) (fun _ _ _ h => h) (Or.inl ⟨by kernel_rfl, ?_⟩) (by assumption) ?_
    rotate_left
    · (intro w hSw; (try dsimp only at hSw); go_simp); all_goals (with_reducible rfl)
    try simp only [Act.put, List.setIfInBounds_toArray, List.set_cons_zero, List.set_cons_succ]
    refine wpAnyH_take (i := 67) (oi := { dst := some 123, op := _, type := _, pos := _, after := _, guard := _ }) (v := ?_) rfl (by kernel_rfl) (by kernel_rfl) (by kernel_rfl) (fun _ _ _ h => h) (Or.inl ⟨by kernel_rfl, ?_⟩) (by assumption) ?_
    rotate_left
    · (intro w hSw; (try dsimp only at hSw); have q0 := cell_later hSw x5; go_simp); all_goals (with_reducible rfl)
    try simp only [Act.put, List.setIfInBounds_toArray, List.set_cons_zero, List.set_cons_succ]
    refine wpAnyH_take (i := 68) (oi := { dst := some 124, op := _, type := _, pos := _, after := _, guard := _ }) (v := ?_) rfl (by kernel_rfl) (by kernel_rfl) (by kernel_rfl) (fun _ _ _ h => h) (Or.inl ⟨by kernel_rfl, ?_⟩) (by assumption) ?_
    rotate_left
    · (intro w hSw; (try dsimp only at hSw); go_simp); all_goals (with_reducible rfl)
    try simp only [Act.put, List.setIfInBounds_toArray, List.set_cons_zero, List.set_cons_succ]
    refine wpAnyH_take (i := 69) (oi := { dst := some 125, op := _, type := _, pos := _, after := _, guard := _ }) (v := ?_) rfl (by kernel_rfl) (by kernel_rfl) (by kernel_rfl) (fun _ _ _ h => h) (Or.inl ⟨by kernel_rfl, ?_⟩) (by assumption) ?_
    rotate_left
    · (intro w hSw; (try dsimp only at hSw); go_simp); all_goals (with_reducible rfl)
    try simp only [Act.put, List.setIfInBounds_toArray, List.set_cons_zero, List.set_cons_succ]
    refine wpAnyH_take (i := 70) (oi := { dst := some 0, op := _, type := _, pos := _, after := _, guard := _ }) (v := ?_) rfl (by kernel_rfl) (by kernel_rfl) (by kernel_rfl) (fun _ _ _ h => h) (Or.inl ⟨by kernel_rfl, ?_⟩) (by assumption) ?_
    rotate_left
    · (intro w hSw; (try dsimp only at hSw); go_simp); all_goals (with_reducible rfl)
    try simp only [Act.put, List.setIfInBounds_toArray, List.set_cons_zero]
    refine wpAnyH_done (by kernel_rfl) ?_ _
    go_wp2
    go_ret
    exact ⟨rfl, HBW.out.trans (hS1.mono HBW.out.size)⟩

end Go.Proofs.YtnnfcbebjbfkoaaDoor
