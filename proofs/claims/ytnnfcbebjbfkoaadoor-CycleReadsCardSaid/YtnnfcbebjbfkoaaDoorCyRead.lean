/-
  Read: the walk.
-/
import Derived.Test.YtnnfcbebjbfkoaaDoorCyRule
import Derived.Test.YtnnfcbebjbfkoaaDoorSm
namespace Go.Proofs.YtnnfcbebjbfkoaaDoor
open Go.RowKit

theorem flat_snoc (l : List RuleV) (r : RuleV) : flat (l ++ [r]) = flat l ++ r.cells := by simp [flat]

/-- what Read leaves -/
def ReadOut (o : Option (List RuleV)) (w : World) (e : Ending) (w' : World) : Prop :=
  (match o with
    | some l => ∃ v, e = .returned (.tuple #[v, .int .i64 0]) ∧ w'.ownsRow w.heap.size 34 6 v l.length (flat l)
    | none => e = .returned (.tuple #[.slice none 0 0, .int .i64 89])) ∧ Below w.heap.size w w'

theorem readKids_len : ∀ {ks : List Tree} {l : List RuleV}, readKids ks = some l → l.length = ks.length
  | [], l, h => by simp [readKids] at h; subst h; rfl
  | k :: ks, l, h => by
    unfold readKids at h
    split at h
    · cases h
    · cases hr : readKids ks with
      | none => simp [hr] at h
      | some l' => simp [hr] at h; subst h; simp [readKids_len hr]

set_option maxHeartbeats 800000 in
theorem read_no (n tx : ByteArray) (len c : Nat) (a : Option Addr) (w : World) (hl : len ≤ 2513169434843) (h : (n.toList == tConf && tx.toList.isEmpty && decide (1 ≤ len ∧ len ≤ 10)) = false) :
    Calls Tryd.prog 8 #[.agg #[.string n, .string tx, .slice a len c]] w (ReadOut none w) := by
  have HF : ∀ w1, Below w.heap.size w w1 → ReadOut none w (.returned (.tuple #[.slice none 0 0, .int .i64 89])) w1 := fun w1 hb => ⟨rfl, hb⟩
  have HF' := Lib.hid HF
  clear HF
  unfold tConf at h
  cases h1 : (n.toList == [76, 105, 102, 101, 99, 121, 99, 108, 101, 67, 111, 110, 102, 105, 103, 117, 114, 97, 116, 105, 111, 110])
  · have h1' : (n.toList != [76, 105, 102, 101, 99, 121, 99, 108, 101, 67, 111, 110, 102, 105, 103, 117, 114, 97, 116, 105, 111, 110]) = true := by rw [bne, h1]; rfl
    clear h
    go_enter Tryd.func8, Tryd.ntmps8
    go_wp2
    go_ret2
    exact HF'.out _ (by repeat (first | exact Below.refl _ _ | assumption | (refine below_drewN ?_ _) | (refine Below.alloc ?_ (by first | (simp; done) | (simp; omega) | omega) _) | (refine Below.setCell ?_ (by first | (simp; done) | (simp; omega) | omega) _)))
  · have h1' : (n.toList != [76, 105, 102, 101, 99, 121, 99, 108, 101, 67, 111, 110, 102, 105, 103, 117, 114, 97, 116, 105, 111, 110]) = false := by rw [bne, h1]; rfl
    by_cases h2 : tx.toList = []
    · have h3 : len < 1 ∨ 10 < len := by
        rw [h1, h2] at h
        simp at h; omega
      clear h
      rcases h3 with h3 | h3
      · go_enter Tryd.func8, Tryd.ntmps8
        go_wp2
        go_ret2
        exact HF'.out _ (by repeat (first | exact Below.refl _ _ | assumption | (refine below_drewN ?_ _) | (refine Below.alloc ?_ (by first | (simp; done) | (simp; omega) | omega) _) | (refine Below.setCell ?_ (by first | (simp; done) | (simp; omega) | omega) _)))
      · go_enter Tryd.func8, Tryd.ntmps8
        go_wp2
        go_ret2
        exact HF'.out _ (by repeat (first | exact Below.refl _ _ | assumption | (refine below_drewN ?_ _) | (refine Below.alloc ?_ (by first | (simp; done) | (simp; omega) | omega) _) | (refine Below.setCell ?_ (by first | (simp; done) | (simp; omega) | omega) _)))
    · clear h
      go_enter Tryd.func8, Tryd.ntmps8
      go_wp2
      go_ret2
      exact HF'.out _ (by repeat (first | exact Below.refl _ _ | assumption | (refine below_drewN ?_ _) | (refine Below.alloc ?_ (by first | (simp; done) | (simp; omega) | omega) _) | (refine Below.setCell ?_ (by first | (simp; done) | (simp; omega) | omega) _)))

/-- .. of the kids from i on -/
theorem readKids_at {ks : List Tree} {i : Nat} {k : Tree} {l : List RuleV} {o : Option (List RuleV)} (hk : ks[i]? = some k) (h : o = (readKids (ks.drop i)).map fun m => l ++ m) :
    o = match ruleOf k with
      | none => none
      | some r => (readKids (ks.drop (i + 1))).map fun m => (l ++ [r]) ++ m := by
  rw [h, drop_cons hk, readKids]
  cases ruleOf k with
  | none => rfl
  | some r => cases readKids (ks.drop (i + 1)) <;> simp

theorem info_rule : ∃ i, Tryd.prog.info? 34 = some i ∧ i.zero = some (.agg #[.string ⟨#[]⟩, .string ⟨#[]⟩, .bool false, .int .i64 0, .int .i64 0, .int .i64 0]) ∧ i.size = 6 ∧ i.bytes = 64 :=
  info_parts (show (Tryd.prog.info? 34).map (fun i => (i.zero, i.size, i.bytes)) = some (some (.agg #[.string ⟨#[]⟩, .string ⟨#[]⟩, .bool false, .int .i64 0, .int .i64 0, .int .i64 0]), 6, 64) by kernel_rfl)

set_option maxHeartbeats 1600000 in
set_option maxRecDepth 100000 in
theorem read_yes (t : Tree) (a : Option Addr) (c : Nat) (w : World) (hG : Glob w) (hk : KidsIn w t.kids a 0) (h : (t.name.toList == tConf && t.text.toList.isEmpty && decide (1 ≤ t.kids.length ∧ t.kids.length ≤ 10)) = true) :
    Calls Tryd.prog 8 #[elemV t a c] w (ReadOut (readOf t) w) := by
  have hro : readOf t = readKids t.kids := by unfold readOf; rw [if_pos h]
  rw [hro]
  obtain ⟨res, hres⟩ : ∃ res, Hid (res = readKids t.kids) := ⟨_, rfl⟩
  rw [← hres.out]
  obtain ⟨i0, hi, hz0, hz1, hz2⟩ := info_rule
  rw [Bool.and_eq_true, Bool.and_eq_true] at h
  obtain ⟨⟨h1, h2⟩, h34⟩ := h
  replace h2 := List.isEmpty_iff.1 h2
  obtain ⟨h3, h4⟩ := of_decide_eq_true h34
  clear h34
  obtain ⟨n, tx, ks⟩ := t
  simp only [Tree.name, Tree.text, Tree.kids, elemV, tConf] at *
  have h1' : (n.toList != [76, 105, 102, 101, 99, 121, 99, 108, 101, 67, 111, 110, 102, 105, 103, 117, 114, 97, 116, 105, 111, 110]) = false := by rw [bne, h1]; rfl
  have HG := Lib.hid hG
  have HK := Lib.hid hk
  clear hG hk hro
  go_enter Tryd.func8, Tryd.ntmps8
  go_wp2
  go_loopg [4, 32] ks.length (fun gg s4 s32 wr => ∃ (i : Nat) (l : List RuleV), i ≤ ks.length ∧ ks.length - i ≤ gg ∧ s32 = .int .i64 i ∧ Hid (l.length = i) ∧ Hid (wr.ownsRow (w.heap.size + 1) 34 6 s4 i (flat l)) ∧ Hid (Below w.heap.size w wr ∧ w.heap.size + 1 ≤ wr.heap.size) ∧
    Hid (res = (readKids (ks.drop i)).map fun m => l ++ m))
  case atStart => exact ⟨0, [], Nat.zero_le _, by omega, rfl, rfl, World.ownsRow_nil _ _ _ _, (show Hid _ from ⟨below_alloc (Below.refl _ _) (Nat.le_refl _) _, by simp⟩), (show Hid _ from by show _ = _; rw [hres.out]; simp)⟩
  case round =>
    obtain ⟨i, l, hin, hgg, rfl, HL, HO, HB, HF⟩ := hrel
    by_cases hlt : i < ks.length
    · obtain ⟨k, HKi⟩ : ∃ k, Hid (ks[i]? = some k) := ⟨_, List.getElem?_eq_getElem hlt⟩
      obtain ⟨b, off, a', c', rfl, k0, k1, k2, _, _, hkl, hkk, _⟩ := HK.out.kid HKi.out
      replace k0 := cell_later HB.out.1 k0
      replace k1 := cell_later HB.out.1 k1
      replace k2 := cell_later HB.out.1 k2
      have hbl := World.block_lt_of_cell? wr _ k0
      have HKK : Hid (KidsIn wr k.kids a' 0) := KidsIn.later HB.out.1 _ _ _ hkk
      have HSTEP := Lib.hid (readKids_at HKi.out HF.out)
      have HRW := Lib.hid (fun w hG hk => rule_walk k a' c' w hG hkl hk)
      obtain ⟨o, hro⟩ : ∃ o, Hid (ruleOf k = o) := ⟨_, rfl⟩
      rw [hro.out] at HSTEP HRW
      obtain ⟨kn, kt, kk⟩ := k
      simp only [Tree.name, Tree.text, Tree.kids, elemV] at *
      clear hkk
      have hwr := HB.out.2
      go_wp2_with fail
      refine (HRW.out _ (HG.out.later (below_alloc HB.out.1 (Nat.le_refl _) _)) (KidsIn.later (below_alloc (Below.refl _ _) (Nat.le_refl _) _) _ _ _ HKK.out)).mono ?_
      rintro e w2 ⟨he, hb2⟩
      have s2 := hb2.size
      simp at s2
      have HB2 : Hid (Below w.heap.size w w2 ∧ w.heap.size + 1 ≤ w2.heap.size) := ⟨(below_alloc HB.out.1 (Nat.le_refl _) _).trans (hb2.mono (by simp; omega)), by omega⟩
      have HO2 : Hid (w2.ownsRow (w.heap.size + 1) 34 6 u4 i (flat l)) := by
        refine (HO.out.alloc (.cells #[.string kn, .string kt, .slice a' kk.length c'] 24)).kept (row := none) ⟨hb2.os, hb2.tape, hb2.output, hb2.size, fun k hk _ => hb2.block k hk⟩ ?_
        cases Value.ownBlock u4 <;> simp
      clear hb2
      cases o with
      | none =>
        obtain ⟨⟨rid, rpre, ron, rd, rn, ra⟩, rfl⟩ := he
        simp only [RuleV.cells]
        have HRES : Hid (res = none) := HSTEP.out
        go_wp2
        go_ret2
        rw [HRES.out]
        exact ⟨rfl, below_alloc HB2.out.1 (by omega) _⟩
      | some r =>
        subst he
        obtain ⟨rid, rpre, ron, rd, rn, ra⟩ := r
        simp only [RuleV.cells]
        go_wp2_with (at_builtin; refine wpList_append_own _ rfl _ _ 26 rfl (w.heap.size + 1) 34 i0 _ 6 64 Tryd.underlying26 hi hz0 hz1 hz2 rfl (by decide) _ _ _ rfl ((HO2.out.alloc _).alloc _) ⟨w2.heap.size + 1, 0, none⟩ 1 1 [.string rid, .string rpre, .bool ron, .int .i64 rd, .int .i64 rn, .int .i64 ra] rfl rfl ?c1 ?c2 ?c3 ?c4 ?c5 ?_)
        case c2 => simp [Value.oneCell']
        case c3 => simp only [maxLen]; omega
        case c4 => omega
        case c5 => omega
        intro v' w7 hown' hgrow _
        have O7 : Hid (w7.ownsRow (w.heap.size + 1) 34 6 v' (i + 1) (flat (l ++ [⟨rid, rpre, ron, rd, rn, ra⟩]))) := by
          show World.ownsRow _ _ _ _ _ _ _
          rw [flat_snoc]
          exact hown'
        have B7 : Hid (Below w.heap.size w w7 ∧ w.heap.size + 1 ≤ w7.heap.size) := by
          have hlt' := HO2.out.lt
          refine ⟨(below_alloc (below_alloc HB2.out.1 (by omega) _) (by first | (simp; done) | (simp; omega) | omega) _).grown hgrow (by first | (simp; done) | (simp; omega) | omega) (fun k hk => ?_), ?_⟩
          · have := (hlt' k hk).1; omega
          · have := hgrow.size; simp at this; omega
        have HL7 : Hid ((l ++ [(⟨rid, rpre, ron, rd, rn, ra⟩ : RuleV)]).length = i + 1) := by show _ = _; simp [HL.out]
        clear hown' hgrow
        go_wp2
        go_roundg (ks.length - (i + 1))
        case measure => omega
        case rel => exact ⟨i + 1, _, by omega, Nat.le_refl _, by go_num, HL7, O7, B7, HSTEP⟩
    · obtain rfl : i = ks.length := by omega
      have HRES : Hid (res = some l) := by
        show _ = _
        rw [HF.out, List.drop_length]; simp [readKids]
      go_wp2
      go_ret2
      rw [HRES.out]
      refine ⟨⟨_, rfl, ?_⟩, HB.out.1⟩
      rw [HL.out]
      refine ⟨HO.out.1, ?_⟩
      rcases HO.out.2 with h | ⟨g, cap, cur, hv, hg, r⟩
      · exact .inl h
      · exact .inr ⟨g, cap, cur, hv, by omega, r⟩

/-- Read, at whatever element -/
theorem read_any (t : Tree) (a : Option Addr) (c : Nat) (w : World) (hG : Glob w) (hl : t.kids.length ≤ 2513169434843) (hk : KidsIn w t.kids a 0) :
    Calls Tryd.prog 8 #[elemV t a c] w (ReadOut (readOf t) w) := by
  cases h : (t.name.toList == tConf && t.text.toList.isEmpty && decide (1 ≤ t.kids.length ∧ t.kids.length ≤ 10))
  · have e : readOf t = none := by unfold readOf; rw [if_neg (by rw [h]; simp)]
    rw [e]
    exact read_no _ _ _ _ _ _ hl h
  · exact read_yes t a c w hG hk h

end Go.Proofs.YtnnfcbebjbfkoaaDoor
