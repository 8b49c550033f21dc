/-
  PLAIN LAWS of chapter 22: what was read, told and read again; what is due later, by more; the examples.
-/
import Derived.Test.YtnnfcbebjbfkoaaDoorSm
import Derived.Test.YtnnfcbebjbfkoaaDoorCyTell2
namespace Go.Proofs.YtnnfcbebjbfkoaaDoor
open Go.RowKit

/-- what is read of a number is read again -/
def DayOK (n : Int) : Prop := n = 0 ∨ (0 < n ∧ n ≤ 36500 ∧ dayNum ⟨(Lib.itoa n).toArray⟩ = n ∧ (Lib.itoa n).length ≤ 5)
def RuleRd (r : RuleV) : Prop := r.id.size ≤ 100 ∧ r.pre.size ≤ 100 ∧ DayOK r.days ∧ DayOK r.nonc ∧ DayOK r.abort

theorem dayNum_ok (s : ByteArray) (hs : s.size ≤ 5) : DayOK (dayNum s) := by
  unfold DayOK
  generalize h : dayNum s = n
  unfold dayNum at h
  split at h
  · rename_i v hv
    split at h
    · rename_i hc
      simp only [Bool.and_eq_true, beq_iff_eq, decide_eq_true_eq] at hc
      subst h
      refine .inr ⟨by omega, hc.2.2, ?_, ?_⟩
      · unfold dayNum
        simp only
        rw [hc.1, hv]
        simp [hc.1, hc.2]
      · rw [hc.1]; simpa using hs
    · exact .inl h.symm
  · exact .inl h.symm
theorem daysOf_ok (t : Tree) (nm : List UInt8) : DayOK (daysOf t nm) := by
  unfold daysOf
  split
  · rename_i k hk
    split
    · rename_i hc
      simp only [leafB, Bool.and_eq_true, decide_eq_true_eq] at hc
      exact dayNum_ok _ (by omega)
    · exact .inl rfl
  · exact .inl rfl

theorem partV_rd {r : RuleV} (k : Tree) (h : RuleRd r) (ho : (partV r k).2 = true) : RuleRd (partV r k).1 := by
  obtain ⟨h1, h2, h3, h4, h5⟩ := h
  unfold partV at *
  split at ho
  · rename_i c1; rw [if_pos c1]
    simp [leafB] at ho
    exact ⟨(show k.text.size ≤ 100 by omega), h2, h3, h4, h5⟩
  · rename_i c1; rw [if_neg c1]
    split at ho
    · rename_i c2; rw [if_pos c2]; exact ⟨h1, h2, h3, h4, h5⟩
    · rename_i c2; rw [if_neg c2]
      split at ho
      · rename_i c3; rw [if_pos c3]
        split at ho
        · rename_i c4; rw [if_pos c4]
          split at ho
          · rename_i hk; simp only; exact ⟨h1, h2, h3, h4, h5⟩
          · rename_i p hk; simp only
            simp [leafB] at ho
            exact ⟨h1, (show p.text.size ≤ 100 by omega), h3, h4, h5⟩
          · cases ho
        · cases ho
      · rename_i c3; rw [if_neg c3]
        split at ho
        · rename_i c4; rw [if_pos c4]; exact ⟨h1, h2, daysOf_ok _ _, h4, h5⟩
        · rename_i c4; rw [if_neg c4]
          split at ho
          · rename_i c5; rw [if_pos c5]; exact ⟨h1, h2, h3, daysOf_ok _ _, h5⟩
          · rename_i c5; rw [if_neg c5]
            split at ho
            · rename_i c6; rw [if_pos c6]; exact ⟨h1, h2, h3, h4, daysOf_ok _ _⟩
            · cases ho

theorem ruleKids_rd : ∀ (ks : List Tree) (r : RuleV) (seen : List (List UInt8)) (r' : RuleV), RuleRd r → ruleKids r seen ks = some r' → RuleRd r'
  | [], r, seen, r', h, e => by simp [ruleKids] at e; subst e; exact h
  | k :: ks, r, seen, r', h, e => by
    unfold ruleKids at e
    split at e
    · cases e
    · split at e
      · rename_i ho
        exact ruleKids_rd ks _ _ r' (partV_rd k h ho) e
      · cases e

theorem ruleOf_rd {t : Tree} {r : RuleV} (h : ruleOf t = some r) : RuleRd r ∧ 0 < r.days + r.nonc + r.abort := by
  unfold ruleOf at h
  split at h
  · cases h
  · rename_i r' hr
    split at h
    · rename_i hc
      simp only [Bool.and_eq_true, decide_eq_true_eq] at hc
      cases h
      exact ⟨ruleKids_rd _ _ _ _ (by unfold RuleRd DayOK rule0; simp [ByteArray.size]) hr, hc.2⟩
    · cases h
theorem readKids_rd : ∀ (ks : List Tree) (l : List RuleV), readKids ks = some l → ∀ r ∈ l, RuleRd r ∧ 0 < r.days + r.nonc + r.abort
  | [], l, h, r, hr => by simp [readKids] at h; subst h; cases hr
  | k :: ks, l, h, r, hr => by
    unfold readKids at h
    split at h
    · cases h
    · rename_i r0 hr0
      cases hk : readKids ks with
      | none => simp [hk] at h
      | some m =>
        simp [hk] at h
        subst h
        rcases List.mem_cons.1 hr with rfl | hr
        · exact ruleOf_rd hr0
        · exact readKids_rd ks m hk r hr

theorem toList_mk' (l : List UInt8) : (⟨l.toArray⟩ : ByteArray).toList = l := ByteArray.toList_mk l

/-- a part that was told is read -/
theorem part_days (_r : RuleV) (nm kd : List UInt8) (n : Int) (hn : DayOK n) (h0 : 0 < n) : daysOf (.node ⟨nm.toArray⟩ ⟨#[]⟩ [leafT kd ⟨(Lib.itoa n).toArray⟩]) kd = n := by
  rcases hn with h | ⟨_, _, h1, h2⟩
  · omega
  · have hE : daysOf (.node ⟨nm.toArray⟩ ⟨#[]⟩ [leafT kd ⟨(Lib.itoa n).toArray⟩]) kd = if (⟨#[]⟩ : ByteArray).toList.isEmpty && ((⟨kd.toArray⟩ : ByteArray).toList == kd) && (([] : List Tree).length == 0 && decide (((⟨(Lib.itoa n).toArray⟩ : ByteArray).size : Int) ≤ 5)) then dayNum ⟨(Lib.itoa n).toArray⟩ else 0 := rfl
    rw [hE, if_pos (by rw [show (⟨#[]⟩ : ByteArray).toList = [] from toList_mk' [], toList_mk']; simp [ByteArray.size]; omega)]
    exact h1

theorem rk_step {r r' : RuleV} {seen : List (List UInt8)} {k : Tree} {ks : List Tree} (h1 : seen.contains k.name.toList = false) (h2 : partV r k = (r', true)) : ruleKids r seen (k :: ks) = ruleKids r' (seen ++ [k.name.toList]) ks := by
  rw [ruleKids, h1, h2]; rfl
theorem not_in {seen : List (List UInt8)} {x : List UInt8} {l : List (List UInt8)} (h : ∀ y ∈ seen, y ∈ l) (hx : l.contains x = false) : seen.contains x = false := by
  cases hc : seen.contains x with
  | false => rfl
  | true =>
    have := h x (by simpa using hc)
    rw [show l.contains x = true from by simpa using this] at hx
    cases hx

theorem pv_id (r : RuleV) (s : ByteArray) (h : s.size ≤ 100) : partV r (leafT tID s) = ({ r with id := s }, true) := by
  have hn : (leafT tID s).name.toList = tID := toList_mk' _
  have hl : leafB (leafT tID s) 100 = true := by show ((0 : Nat) == 0 && decide ((s.size : Int) ≤ 100)) = true; simp; omega
  unfold partV; rw [hn, hl]; rfl
theorem pv_status (r : RuleV) (b : Bool) : partV r (leafT tStatus ⟨(if b then tEnabled else tDisabled).toArray⟩) = ({ r with on := b }, true) := by
  have hn : (leafT tStatus ⟨(if b then tEnabled else tDisabled).toArray⟩).name.toList = tStatus := toList_mk' _
  have ht : (leafT tStatus ⟨(if b then tEnabled else tDisabled).toArray⟩).text.toList = if b then tEnabled else tDisabled := toList_mk' _
  have hl : leafB (leafT tStatus ⟨(if b then tEnabled else tDisabled).toArray⟩) 100 = true := by cases b <;> decide
  unfold partV; rw [hn, hl, ht]
  cases b <;> rfl
theorem pv_filter (r : RuleV) (s : ByteArray) (h : s.size ≤ 100) (ks : List Tree) (hk : ks = if s.toList = [] then [] else [leafT tPrefix s]) (hr : r.pre = ⟨#[]⟩) : partV r (.node ⟨tFilter.toArray⟩ ⟨#[]⟩ ks) = ({ r with pre := s }, true) := by
  have hn : (Tree.node ⟨tFilter.toArray⟩ ⟨#[]⟩ ks).name.toList = tFilter := toList_mk' _
  have ht : (Tree.node ⟨tFilter.toArray⟩ ⟨#[]⟩ ks).text.toList = [] := toList_mk' []
  unfold partV; rw [hn, ht]
  by_cases hs : s.toList = []
  · rw [if_pos hs] at hk
    subst hk
    have e : s = ⟨#[]⟩ := by rw [ByteArray.toList_eq] at hs; exact WideShapes.bytes_inj (by rw [hs])
    rw [e, ← hr]
    rfl
  · rw [if_neg hs] at hk
    subst hk
    have hp : (leafT tPrefix s).name.toList = tPrefix := toList_mk' _
    have hl : leafB (leafT tPrefix s) 100 = true := by show ((0 : Nat) == 0 && decide ((s.size : Int) ≤ 100)) = true; simp; omega
    simp only [Tree.kids]
    rw [hp, hl]
    rfl
theorem nm_node (nm : List UInt8) (t : ByteArray) (ks : List Tree) : (Tree.node ⟨nm.toArray⟩ t ks).name.toList = nm := toList_mk' _
theorem pv_exp (r : RuleV) (n : Int) (hn : DayOK n) (h0 : 0 < n) : partV r (.node ⟨tExp.toArray⟩ ⟨#[]⟩ [leafT tDays ⟨(Lib.itoa n).toArray⟩]) = ({ r with days := n }, true) := by
  unfold partV
  rw [nm_node, part_days r tExp tDays n hn h0]
  simp only [show decide (0 < n) = true from by simp [h0]]
  rfl
theorem pv_non (r : RuleV) (n : Int) (hn : DayOK n) (h0 : 0 < n) : partV r (.node ⟨tNon.toArray⟩ ⟨#[]⟩ [leafT tNonDays ⟨(Lib.itoa n).toArray⟩]) = ({ r with nonc := n }, true) := by
  unfold partV
  rw [nm_node, part_days r tNon tNonDays n hn h0]
  simp only [show decide (0 < n) = true from by simp [h0]]
  rfl
theorem pv_abort (r : RuleV) (n : Int) (hn : DayOK n) (h0 : 0 < n) : partV r (.node ⟨tAbort.toArray⟩ ⟨#[]⟩ [leafT tAfter ⟨(Lib.itoa n).toArray⟩]) = ({ r with abort := n }, true) := by
  unfold partV
  rw [nm_node, part_days r tAbort tAfter n hn h0]
  simp only [show decide (0 < n) = true from by simp [h0]]
  rfl

/-- some days, told or not -/
theorem rk_days (r r' : RuleV) (seen l : List (List UInt8)) (nm kd : List UInt8) (n : Int) (ks : List Tree) (hn : DayOK n) (hseen : ∀ y ∈ seen, y ∈ l) (hnm : l.contains nm = false) (h0 : n = 0 → r' = r)
    (hp : 0 < n → partV r (.node ⟨nm.toArray⟩ ⟨#[]⟩ [leafT kd ⟨(Lib.itoa n).toArray⟩]) = (r', true)) : ∃ seen', (∀ y ∈ seen', y ∈ l ++ [nm]) ∧ ruleKids r seen (daysT nm kd n ++ ks) = ruleKids r' seen' ks := by
  unfold daysT
  by_cases hp0 : 0 < n
  · rw [if_pos hp0]
    refine ⟨seen ++ [nm], fun y hy => ?_, ?_⟩
    · rcases List.mem_append.1 hy with h | h
      · exact List.mem_append_left _ (hseen y h)
      · exact List.mem_append_right _ h
    · rw [List.singleton_append, rk_step (by rw [nm_node]; exact not_in hseen hnm) (hp hp0), nm_node]
  · rw [if_neg hp0]
    have : n = 0 := by rcases hn with h | h; exact h; omega
    rw [h0 this]
    exact ⟨seen, fun y hy => List.mem_append_left _ (hseen y hy), rfl⟩

theorem rule_tell (r : RuleV) (h : RuleRd r) (hs : 0 < r.days + r.nonc + r.abort) : ruleOf (ruleT r) = some r := by
  obtain ⟨h1, h2, h3, h4, h5⟩ := h
  have hK : ruleKids rule0 [] (ruleT r).kids = some r := by
    unfold ruleT
    simp only [Tree.kids, List.append_assoc]
    obtain ⟨s1, hs1, e1⟩ : ∃ s1 : List (List UInt8), (∀ y ∈ s1, y ∈ [tID]) ∧ ∀ ks, ruleKids rule0 [] (idT r ++ ks) = ruleKids { rule0 with id := r.id } s1 ks := by
      unfold idT
      by_cases hi : r.id.toList = []
      · have e : r.id = ⟨#[]⟩ := by rw [ByteArray.toList_eq] at hi; exact WideShapes.bytes_inj (by rw [hi])
        rw [if_pos hi, e]
        exact ⟨[], by simp, fun ks => rfl⟩
      · rw [if_neg hi]
        refine ⟨[tID], by simp, fun ks => ?_⟩
        rw [List.singleton_append, rk_step (r' := { rule0 with id := r.id }) rfl (pv_id _ _ h1)]
        rw [show (leafT tID r.id).name.toList = tID from toList_mk' _]
        rfl
    rw [e1, List.cons_append, List.cons_append, List.nil_append]
    unfold statusT
    rw [rk_step (r' := { rule0 with id := r.id, on := r.on }) (by rw [show (leafT tStatus _).name.toList = tStatus from toList_mk' _]; exact not_in hs1 (by decide)) (pv_status _ _), show (leafT tStatus _).name.toList = tStatus from toList_mk' _]
    have hs2 : ∀ y ∈ s1 ++ [tStatus], y ∈ [tID, tStatus] := fun y hy => by
      rcases List.mem_append.1 hy with h | h
      · have := hs1 y h; simp at this; simp [this]
      · simp at h; simp [h]
    unfold filterT
    rw [rk_step (r' := { rule0 with id := r.id, on := r.on, pre := r.pre }) (by rw [nm_node]; exact not_in hs2 (by decide)) (pv_filter _ r.pre h2 _ rfl rfl), nm_node]
    have hs3 : ∀ y ∈ s1 ++ [tStatus] ++ [tFilter], y ∈ [tID, tStatus, tFilter] := fun y hy => by
      rcases List.mem_append.1 hy with h | h
      · have := hs2 y h; simp at this; rcases this with h | h <;> simp [h]
      · simp at h; simp [h]
    obtain ⟨s4, hs4, e4⟩ := rk_days { rule0 with id := r.id, on := r.on, pre := r.pre } { rule0 with id := r.id, on := r.on, pre := r.pre, days := r.days } _ _ tExp tDays r.days (daysT tNon tNonDays r.nonc ++ daysT tAbort tAfter r.abort) h3 hs3 (by decide) (fun h => by rw [h]; rfl) (fun h => pv_exp _ _ h3 h)
    rw [e4]
    obtain ⟨s5, hs5, e5⟩ := rk_days { rule0 with id := r.id, on := r.on, pre := r.pre, days := r.days } { rule0 with id := r.id, on := r.on, pre := r.pre, days := r.days, nonc := r.nonc } _ _ tNon tNonDays r.nonc (daysT tAbort tAfter r.abort) h4 hs4 (by decide) (fun h => by rw [h]; rfl) (fun h => pv_non _ _ h4 h)
    rw [e5]
    obtain ⟨s6, hs6, e6⟩ := rk_days { rule0 with id := r.id, on := r.on, pre := r.pre, days := r.days, nonc := r.nonc } r _ _ tAbort tAfter r.abort [] h5 hs5 (by decide) (fun h => by cases r; simp at h; subst h; rfl) (fun h => pv_abort _ _ h5 h)
    rw [List.append_nil] at e6
    rw [e6]; rfl
  unfold ruleOf
  rw [hK]
  have hn : (ruleT r).name.toList = tRule := toList_mk' _
  have ht : (ruleT r).text.toList = [] := toList_mk' []
  have m1 : ((ruleT r).kids.map fun k => k.name.toList).contains tStatus = true := by
    rw [List.contains_iff_mem]
    exact List.mem_map.2 ⟨statusT r, by simp [ruleT, Tree.kids], toList_mk' _⟩
  have m2 : ((ruleT r).kids.map fun k => k.name.toList).contains tFilter = true := by
    rw [List.contains_iff_mem]
    exact List.mem_map.2 ⟨filterT r, by simp [ruleT, Tree.kids], toList_mk' _⟩
  simp only [hn, ht, m1, m2]
  rw [if_pos (by simp [hs])]

theorem readKids_tell : ∀ (l : List RuleV), (∀ r ∈ l, RuleRd r ∧ 0 < r.days + r.nonc + r.abort) → readKids (l.map ruleT) = some l
  | [], _ => rfl
  | r :: l, h => by
    rw [List.map_cons, readKids, rule_tell r (h r List.mem_cons_self).1 (h r List.mem_cons_self).2]
    simp only
    rw [readKids_tell l (fun r' hr' => h r' (List.mem_cons_of_mem _ hr'))]; rfl

/-- what was read, told and read again is the same -/
theorem read_tell (t : Tree) (l : List RuleV) (h : readOf t = some l) : readOf (tellT l) = some l ∧ 1 ≤ l.length ∧ l.length ≤ 10 ∧ ∀ r ∈ l, RuleRd r := by
  unfold readOf at h
  split at h
  · rename_i hc
    simp only [Bool.and_eq_true, decide_eq_true_eq] at hc
    have hl : l.length = t.kids.length := by
      clear hc
      have : ∀ (ks : List Tree) (l : List RuleV), readKids ks = some l → l.length = ks.length := by
        intro ks
        induction ks with
        | nil => intro l h; simp [readKids] at h; subst h; rfl
        | cons k ks ih =>
          intro l h
          unfold readKids at h
          split at h
          · cases h
          · cases hr : readKids ks with
            | none => simp [hr] at h
            | some l' => simp [hr] at h; subst h; simp [ih l' hr]
      exact this _ _ h
    have hr := readKids_rd _ _ h
    refine ⟨?_, by omega, by omega, fun r hr' => (hr r hr').1⟩
    have hE : readOf (tellT l) = if (⟨tConf.toArray⟩ : ByteArray).toList == tConf && (⟨#[]⟩ : ByteArray).toList.isEmpty && decide (1 ≤ (l.map ruleT).length ∧ (l.map ruleT).length ≤ 10) then readKids (l.map ruleT) else none := rfl
    rw [hE, if_pos (by rw [show (⟨#[]⟩ : ByteArray).toList = [] from toList_mk' [], toList_mk']; simp; omega)]
    exact readKids_tell l hr
  · cases h

end Go.Proofs.YtnnfcbebjbfkoaaDoor
