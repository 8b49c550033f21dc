/-
  storehouseref22.rule: the walk.
-/
import Derived.Test.YtnnfcbebjbfkoaaDoorRxDays
import Derived.Test.YtnnfcbebjbfkoaaDoorCyRule0
import Derived.Test.YtnnfcbebjbfkoaaDoorCyPlain
import Derived.Deep.DeepCutAuto
namespace Go.Proofs.YtnnfcbebjbfkoaaDoor
open Go.RowKit Go.PlainAid

theorem rdays_any (t : Tree) (a : Option Addr) (c : Nat) (name : ByteArray) (w : World) (hk : KidsIn w t.kids a 0) :
    Calls Tryd.prog 47 #[elemV t a c, .string name] w fun e w' => e = .returned (.int .i64 (daysOf t name.toList)) ∧ Below w.heap.size w w' := by
  obtain ⟨n, tx, ks⟩ := t
  simp only [elemV, Tree.name, Tree.text, Tree.kids] at *
  match ks, hk with
  | [k], hk =>
    obtain ⟨b, off, a', c', rfl, k0, k1, k2, _, kt, _⟩ := hk.kid (j := 0) rfl
    simp only [Nat.zero_mul, Nat.add_zero] at k0 k1 k2
    obtain ⟨kn, ktx, kks⟩ := k
    simp only [Tree.name, Tree.text, Tree.kids] at k0 k1 k2 kt
    have h := rdays_one n tx name kn ktx kks.length c b off c' a' w kt k0 k1 k2
    have e : daysOf (.node n tx [.node kn ktx kks]) name.toList = rdaysV tx kn ktx name kks.length := by
      show (if tx.toList.isEmpty && (kn.toList == name.toList) && (kks.length == 0 && decide ((ktx.size : Int) ≤ 5)) then dayNum ktx else 0) =
        (if tx.toList.isEmpty && (kn.toList == name.toList) && kks.length == 0 then (if 5 < ktx.size ∨ valueL ktx.data.toList < 1 ∨ 36500 < valueL ktx.data.toList then 0 else valueL ktx.data.toList) else 0)
      cases (tx.toList.isEmpty && (kn.toList == name.toList))
      · simp
      · simp only [Bool.true_and]
        by_cases hz : kks.length = 0
        · by_cases h5 : ktx.size ≤ 5
          · rw [if_pos (by simp [hz]; omega), if_pos (by simp [hz]), dayNum_value _ h5]
            by_cases hv : valueL ktx.data.toList < 1 ∨ 36500 < valueL ktx.data.toList
            · rw [if_pos hv, if_pos (.inr hv)]
            · rw [if_neg hv, if_neg (by omega)]
          · rw [if_neg (by simp; omega), if_pos (by simp [hz]), if_pos (.inl (by omega))]
        · rw [if_neg (by simp [hz]), if_neg (by simpa using hz)]
    rw [e]
    exact h
  | [], _ =>
    have e : daysOf (.node n tx []) name.toList = 0 := by unfold daysOf; rfl
    rw [e]
    exact rdays_not1 n tx name a 0 c w (by omega)
  | k :: k' :: ks', _ =>
    have e : daysOf (.node n tx (k :: k' :: ks')) name.toList = 0 := by unfold daysOf; rfl
    rw [e]
    exact rdays_not1 n tx name a _ c w (by simp)

/-- what the reference's flag says: is one of the numbers above 0 -/
def SomeInv (r : RuleV) (fl : Bool) : Prop := RuBd r ∧ fl = decide (0 < r.days + r.nonc + r.abort)

theorem ruleKids_seen {r : RuleV} {seen : List (List UInt8)} {k : Tree} {ks : List Tree} (h : seen.contains k.name.toList = true) : ruleKids r seen (k :: ks) = none := by
  unfold ruleKids; rw [if_pos h]
theorem ruleKids_bad {r : RuleV} {seen : List (List UInt8)} {k : Tree} {ks : List Tree} (h : (partV r k).2 = false) : ruleKids r seen (k :: ks) = none := by
  unfold ruleKids
  split
  · rfl
  · rw [if_neg (by rw [h]; simp)]
theorem ruleOf_none {t : Tree} (h : ruleKids rule0 [] t.kids = none) : ruleOf t = none := by unfold ruleOf; rw [h]

theorem names_has {ks : List Tree} {i j : Nat} {k : Tree} (hj : j < i) (h : ks[j]? = some k) : (namesTo ks i).contains k.name.toList = true := by
  unfold namesTo
  simp only [List.contains_eq_mem, List.mem_map, decide_eq_true_eq]
  exact ⟨k, List.mem_of_getElem? (by rw [List.getElem?_take, if_pos hj]; exact h), rfl⟩
theorem names_not {ks : List Tree} {i : Nat} {s : List UInt8} (h : ∀ j k, j < i → ks[j]? = some k → k.name.toList ≠ s) : (namesTo ks i).contains s = false := by
  cases hc : (namesTo ks i).contains s with
  | false => rfl
  | true =>
    exfalso
    unfold namesTo at hc
    simp only [List.contains_eq_mem, List.mem_map, decide_eq_true_eq] at hc
    obtain ⟨k, hk, rfl⟩ := hc
    obtain ⟨j, hj⟩ := List.getElem?_of_mem hk
    rw [List.getElem?_take] at hj
    split at hj
    · exact h j k (by assumption) hj rfl
    · cases hj

/-- did a name come ahead -/
def hasN (ks : List Tree) (i : Nat) (s : List UInt8) : Bool := (namesTo ks i).contains s
theorem hasN_succ {ks : List Tree} {i : Nat} {k : Tree} (h : ks[i]? = some k) (s : List UInt8) : hasN ks (i + 1) s = (hasN ks i s || k.name.toList == s) := by
  unfold hasN
  rw [namesTo_succ h]
  rw [List.contains_append, List.contains_cons, List.contains_nil, Bool.or_false, BEq.comm (a := s)]

set_option maxHeartbeats 8000000 in
set_option maxRecDepth 100000 in
theorem rrule_walk (t : Tree) (a : Option Addr) (c : Nat) (w : World) (hl : t.kids.length ≤ 2513169434843) (hk : KidsIn w t.kids a 0) :
    Calls Tryd.prog 34 #[elemV t a c] w (RuleOut (ruleOf t) w) := by
  have HK := Lib.hid hk
  obtain ⟨res, hres⟩ : ∃ res, Hid (ruleOf t = res) := ⟨_, rfl⟩
  rw [hres.out]
  have HNO := Lib.hid (fun h => ruleOf_none (t := t) h)
  have HT := Lib.hid (rfl : t = t)
  obtain ⟨n, tx, ks⟩ := t
  simp only [elemV, Tree.name, Tree.text, Tree.kids] at *
  clear hk HT
  go_enter Tryd.func34, Tryd.ntmps34
  go_wp2
  go_loopg [5, 6, 7, 8, 9, 10, 11] ks.length (fun gg s5 s6 s7 s8 _ _ _ wr => ∃ (i : Nat) (r : RuleV) (fl : Bool), i ≤ ks.length ∧ ks.length - i ≤ gg ∧ s8 = .int .i64 i ∧ s5 = .bool (hasN ks i tStatus) ∧ s6 = .bool (hasN ks i tFilter) ∧ s7 = .bool fl ∧
    Hid (SomeInv r fl) ∧ Hid (ruleKids rule0 [] ks = ruleKids r (namesTo ks i) (ks.drop i)) ∧ Hid (RuInv w wr (.node n tx ks) a c r))
  case atStart =>
    refine ⟨0, rule0, false, Nat.zero_le _, by omega, rfl, rfl, rfl, rfl, (show Hid _ from ⟨by unfold RuBd rule0; simp, by simp [rule0]⟩), (show Hid _ from rfl), (show Hid _ from ?_)⟩
    refine ⟨below_alloc (below_alloc (below_alloc (Below.refl _ _) (Nat.le_refl _) _) (Nat.le_refl _) _) (Nat.le_refl _) _, ?_, ?_, ?_⟩
    · rw [Below.heap_alloc _ _ _ (by simp; omega), Below.heap_alloc _ _ _ (by simp)]; exact heap_alloc_new _ _
    · rw [Below.heap_alloc _ _ _ (by simp)]; exact heap_at1 _ _ _
    · exact heap_at _ _ (by simp)
  case round =>
    obtain ⟨i, r, fl, hin, hgg, rfl, rfl, rfl, rfl, HSM, HF, HI⟩ := hrel
    obtain ⟨wo, rfl⟩ : ∃ wo : World, wo = wr := ⟨_, rfl⟩
    have q0 : wo.cell? ⟨w.heap.size, 0, none⟩ = some (.string n) := cell_of_heap HI.out.box
    have q2 : wo.cell? ⟨w.heap.size, 2, none⟩ = some (.slice a ks.length c) := cell_of_heap HI.out.box
    by_cases hi : i < ks.length
    · have hiz : (i : Int) < (ks.length : Int) := by omega
      obtain ⟨k, HKi⟩ : ∃ k, Hid (ks[i]? = some k) := ⟨_, List.getElem?_eq_getElem hi⟩
      obtain ⟨b, off, a', c', rfl, k0, k1, k2, kn, kt, kl, kk, _⟩ := (KidsIn.later HI.out.below _ _ _ HK.out).kid HKi.out
      have HKK := Lib.hid kk
      have hg := (Array.getElem?_eq_some_iff.1 HI.out.row).1
      have hbl := World.block_lt_of_cell? wo _ k0
      simp only at hbl
      clear kk
      go_wp2
      have IA : Hid (RuInv w (wo.alloc (.cells #[.string k.name, .string k.text, .slice a' k.kids.length c'] 24)) (.node n tx ks) (some ⟨b, off, none⟩) c r) := HI.out.later (below_alloc (Below.refl _ _) (Nat.le_refl _) _)
      clear q0 q2 k0 k1 k2
      go_loopg [10] i (fun gg s10 wr => ∃ j : Nat, j ≤ i ∧ i - j ≤ gg ∧ s10 = .int .i64 j ∧ Hid (∀ j' k', j' < j → ks[j']? = some k' → k'.name.toList ≠ k.name.toList) ∧
        Hid (RuInv w wr (.node n tx ks) (some ⟨b, off, none⟩) c r) ∧ Hid (wr.heap[wo.heap.size]? = some (.cells #[.string k.name, .string k.text, .slice a' k.kids.length c'] 24 (0, 0))) ∧ Hid (Below wo.heap.size wo wr))
      case atStart => exact ⟨0, Nat.zero_le _, by omega, rfl, (show Hid _ from fun _ _ h => absurd h (by omega)), IA.out, (show Hid _ from heap_alloc_new _ _), (show Hid _ from below_alloc (Below.refl _ _) (Nat.le_refl _) _)⟩
      case round =>
        clear IA HI
        obtain ⟨j, hji, hgj, rfl, HNE, HI, HKB, HBI⟩ := hrel
        have q0 : wr.cell? ⟨w.heap.size, 0, none⟩ = some (.string n) := cell_of_heap HI.out.box
        have q2 : wr.cell? ⟨w.heap.size, 2, none⟩ = some (.slice (some ⟨b, off, none⟩) ks.length c) := cell_of_heap HI.out.box
        have p0 : wr.cell? ⟨wo.heap.size, 0, none⟩ = some (.string k.name) := cell_of_heap HKB.out
        have p1 : wr.cell? ⟨wo.heap.size, 1, none⟩ = some (.string k.text) := cell_of_heap HKB.out
        have p2 : wr.cell? ⟨wo.heap.size, 2, none⟩ = some (.slice a' k.kids.length c') := cell_of_heap HKB.out
        by_cases hj : j < i
        · have hjz : (j : Int) < (i : Int) := by omega
          have hjl : (j : Int) < (ks.length : Int) := by omega
          obtain ⟨k', HKj⟩ : ∃ k', Hid (ks[j]? = some k') := ⟨_, List.getElem?_eq_getElem (by omega)⟩
          obtain ⟨b', off', x', y', he, m0, m1, m2, _⟩ := (KidsIn.later HI.out.below _ _ _ HK.out).kid HKj.out
          cases he
          cases hnm : (k'.name.toList == k.name.toList) with
          | true =>
            have HRES : Hid (res = none) := by
              show _ = _
              rw [← hres.out]
              refine HNO.out ?_
              rw [HF.out, drop_cons HKi.out]
              refine ruleKids_seen ?_
              rw [← eq_of_beq hnm]
              exact names_has hj HKj.out
            go_wp2
            go_quiet (fail)
            go_wp2_with (first
              | (refine wpList_load_row (by rfl) 34 _ (by rfl) (w.heap.size + 2) (by rfl) 34 _ (0, 0) _ (by exact HI.out.row) Tryd.underlying34 rfl (by kernel_rfl) ?_)
              | (refine wpList_store_row (by rfl) 34 _ _ (by rfl) (w.heap.size + 1) _ (by rfl) (by rfl) 34 rule0.cells.toArray (by exact HI.out.res) (by kernel_rfl) (by kernel_rfl) (by kernel_rfl) ?_))
            refine bodyPost_ret (results_cell_tmp rfl _ _ (w.heap.size + 1) 34 _ _ rfl (setRow_heap _ _ rule0.cells.toArray _ _ _ HI.out.res) Tryd.underlying34 rfl (by kernel_rfl)) rfl ?_
            show RuleOut res w _ _
            rw [HRES.out]
            exact ⟨⟨r, rfl⟩, below_one_row _ _ _ _ _ (below_drewN HI.out.below _) (by omega)⟩
          | false =>
            have HNE2 : Hid (∀ j' k', j' < j + 1 → ks[j']? = some k' → k'.name.toList ≠ k.name.toList) := by
              intro j' k'' h1 h2
              by_cases h3 : j' < j
              · exact HNE.out j' k'' h3 h2
              · obtain rfl : j' = j := by omega
                have h4 := HKj.out
                rw [h2] at h4
                obtain rfl := Option.some.inj h4
                exact beq_eq_false_iff_ne.1 hnm
            go_wp2
            go_quiet (fail)
            go_wp2
            go_roundg (i - (j + 1))
            case measure => omega
            case rel => exact ⟨j + 1, by omega, Nat.le_refl _, by go_num, HNE2.out, (show Hid _ from HI.out.later (below_drewN (Below.refl _ _) _)), HKB.out, (show Hid _ from below_drewN HBI.out _)⟩
        · obtain rfl : j = i := by omega
          have HSE : Hid ((namesTo ks j).contains k.name.toList = false) := names_not HNE.out
          have HST : Hid (ruleKids rule0 [] ks = if (partV r k).2 then ruleKids (partV r k).1 (namesTo ks (j + 1)) (ks.drop (j + 1)) else none) := by
            show _ = _
            rw [HF.out, drop_cons HKi.out, ruleKids, HSE.out, namesTo_succ HKi.out]
            rfl
          clear HNE HF hji hgj
          go_upto_block 4 with (fail)
          go_cut [5, 6, 7, 11] (fun s5 s6 s7 s11 w1 => ∃ (r' : RuleV) (ok b5 b6 b7 : Bool), s5 = .bool b5 ∧ s6 = .bool b6 ∧ s7 = .bool b7 ∧ s11 = .bool ok ∧ Hid (ok = (partV r k).2) ∧
            Hid (ok = true → r' = (partV r k).1 ∧ b5 = hasN ks (j + 1) tStatus ∧ b6 = hasN ks (j + 1) tFilter ∧ SomeInv r' b7) ∧ Hid (RuInv w w1 (.node n tx ks) (some ⟨b, off, none⟩) c r'))
          case first =>
            have p0 : wr.cell? ⟨wo.heap.size, 0, none⟩ = some (.string k.name) := cell_of_heap HKB.out
            have RW : Hid (wr.heap[w.heap.size + 1 + 1]? = some (.cells r.cells.toArray 34 (0, 0))) := HI.out.row
            have HKW : Hid (KidsIn wr k.kids a' 0) := KidsIn.later HBI.out _ _ _ HKK.out
            have hsz := (Array.getElem?_eq_some_iff.1 HI.out.row).1
            have hne : w.heap.size + 1 + 1 ≠ wo.heap.size := by omega
            have NS := Lib.hid (fun s => hasN_succ HKi.out s)
            cases h0 : (k.name.toList == tID)
            · cases h1 : (k.name.toList == tStatus)
              · cases h2 : (k.name.toList == tFilter)
                · cases h3 : (k.name.toList == tExp)
                  · cases h4 : (k.name.toList == tNon)
                    · cases h5 : (k.name.toList == tAbort)
                      · have HV : Hid ((partV r k).2 = false) := by show _ = _; unfold partV; rw [h0, h1, h2, h3, h4, h5]; rfl
                        unfold tID at h0; unfold tStatus at h1; unfold tFilter at h2; unfold tExp at h3; unfold tNon at h4; unfold tAbort at h5
                        go_wp2
                        go_meet
                        case rel => exact ⟨r, false, _, _, _, rfl, rfl, rfl, rfl, (show Hid _ from HV.out.symm), (show Hid _ from fun h => by cases h), HI.out⟩
                      · have hn : k.name.toList = [65, 98, 111, 114, 116, 73, 110, 99, 111, 109, 112, 108, 101, 116, 101, 77, 117, 108, 116, 105, 112, 97, 114, 116, 85, 112, 108, 111, 97, 100] := eq_of_beq h5
                        have HV : Hid (partV r k = ({ r with abort := daysOf k tAfter }, decide (0 < daysOf k tAfter))) := by show _ = _; unfold partV; rw [h0, h1, h2, h3, h4, h5]; rfl
                        have hbd := daysOf_bd k tAfter
                        obtain ⟨D, hD⟩ : ∃ D, Hid (daysOf k tAfter = D) := ⟨_, rfl⟩
                        rw [hD.out] at HV hbd
                        obtain ⟨hd0, hd1⟩ := hbd
                        clear h0 h1 h2 h3 h4 h5
                        go_wp2_with fail
                        refine Calls.mono (rdays_any k a' c' ⟨#[68, 97, 121, 115, 65, 102, 116, 101, 114, 73, 110, 105, 116, 105, 97, 116, 105, 111, 110]⟩ wr HKW.out) ?_
                        rw [show daysOf k (⟨#[68, 97, 121, 115, 65, 102, 116, 101, 114, 73, 110, 105, 116, 105, 97, 116, 105, 111, 110]⟩ : ByteArray).toList = D from by rw [ByteArray.toList_mk]; exact hD.out]
                        rintro e w3 ⟨rfl, hb3⟩
                        have I3 := HI.out.later hb3
                        have c0 : w3.cell? ⟨w.heap.size + 1 + 1, 5, none⟩ = _ := cell_of_heap (x := 5) I3.row
                        have f0 : w3.frozen? ⟨w.heap.size + 1 + 1, 5, none⟩ = false := free_of_heap (x := 5) I3.row
                        have p0' : w3.cell? ⟨wo.heap.size, 0, none⟩ = some (.string k.name) := cell_later hb3 p0
                        simp [RuleV.cells] at c0
                        have HB3 := Lib.hid hb3
                        clear hb3 I3
                        have HIP : Hid (RuInv w (w3.setCell ⟨w.heap.size + 1 + 1, 5, none⟩ (.int .i64 D)) (.node n tx ks) (some ⟨b, off, none⟩) c { r with abort := D }) :=
                          HI.out.part (PartOut.set (r := r) HI.out.row HB3.out (by simp [RuleV.cells]))
                        have ns5 : Hid (hasN ks j tStatus = hasN ks (j + 1) tStatus) := by show _ = _; rw [NS.out, hn, show (([65, 98, 111, 114, 116, 73, 110, 99, 111, 109, 112, 108, 101, 116, 101, 77, 117, 108, 116, 105, 112, 97, 114, 116, 85, 112, 108, 111, 97, 100] : List UInt8) == tStatus) = false from by decide, Bool.or_false]
                        have ns6 : Hid (hasN ks j tFilter = hasN ks (j + 1) tFilter) := by show _ = _; rw [NS.out, hn, show (([65, 98, 111, 114, 116, 73, 110, 99, 111, 109, 112, 108, 101, 116, 101, 77, 117, 108, 116, 105, 112, 97, 114, 116, 85, 112, 108, 111, 97, 100] : List UInt8) == tFilter) = false from by decide, Bool.or_false]
                        by_cases hp : 0 < D
                        · have HSM' : Hid (SomeInv { r with abort := D } true) := by
                            obtain ⟨⟨s1, s2, s3⟩, _⟩ := HSM.out
                            refine ⟨by unfold RuBd at *; simp only; omega, ?_⟩
                            simp only; symm; simp; omega
                          go_wp2
                          go_meet
                          case rel => exact ⟨_, true, _, _, true, rfl, rfl, rfl, rfl, Lib.hid (by rw [HV.out]; simp [hp]), (show Hid _ from fun _ => ⟨by rw [HV.out], ns5.out, ns6.out, HSM'.out⟩), HIP.out⟩
                        · go_wp2
                          go_meet
                          case rel => exact ⟨_, decide (0 < D), _, _, _, rfl, rfl, rfl, rfl, Lib.hid (by rw [HV.out]), (show Hid _ from fun h => by have h' := of_decide_eq_true h; omega), HIP.out⟩
                    · have hn : k.name.toList = [78, 111, 110, 99, 117, 114, 114, 101, 110, 116, 86, 101, 114, 115, 105, 111, 110, 69, 120, 112, 105, 114, 97, 116, 105, 111, 110] := eq_of_beq h4
                      have HV : Hid (partV r k = ({ r with nonc := daysOf k tNonDays }, decide (0 < daysOf k tNonDays))) := by show _ = _; unfold partV; rw [h0, h1, h2, h3, h4]; rfl
                      have hbd := daysOf_bd k tNonDays
                      obtain ⟨D, hD⟩ : ∃ D, Hid (daysOf k tNonDays = D) := ⟨_, rfl⟩
                      rw [hD.out] at HV hbd
                      obtain ⟨hd0, hd1⟩ := hbd
                      clear h0 h1 h2 h3 h4
                      go_wp2_with fail
                      refine Calls.mono (rdays_any k a' c' ⟨#[78, 111, 110, 99, 117, 114, 114, 101, 110, 116, 68, 97, 121, 115]⟩ wr HKW.out) ?_
                      rw [show daysOf k (⟨#[78, 111, 110, 99, 117, 114, 114, 101, 110, 116, 68, 97, 121, 115]⟩ : ByteArray).toList = D from by rw [ByteArray.toList_mk]; exact hD.out]
                      rintro e w3 ⟨rfl, hb3⟩
                      have I3 := HI.out.later hb3
                      have c0 : w3.cell? ⟨w.heap.size + 1 + 1, 4, none⟩ = _ := cell_of_heap (x := 4) I3.row
                      have f0 : w3.frozen? ⟨w.heap.size + 1 + 1, 4, none⟩ = false := free_of_heap (x := 4) I3.row
                      have p0' : w3.cell? ⟨wo.heap.size, 0, none⟩ = some (.string k.name) := cell_later hb3 p0
                      simp [RuleV.cells] at c0
                      have HB3 := Lib.hid hb3
                      clear hb3 I3
                      have HIP : Hid (RuInv w (w3.setCell ⟨w.heap.size + 1 + 1, 4, none⟩ (.int .i64 D)) (.node n tx ks) (some ⟨b, off, none⟩) c { r with nonc := D }) :=
                        HI.out.part (PartOut.set (r := r) HI.out.row HB3.out (by simp [RuleV.cells]))
                      have ns5 : Hid (hasN ks j tStatus = hasN ks (j + 1) tStatus) := by show _ = _; rw [NS.out, hn, show (([78, 111, 110, 99, 117, 114, 114, 101, 110, 116, 86, 101, 114, 115, 105, 111, 110, 69, 120, 112, 105, 114, 97, 116, 105, 111, 110] : List UInt8) == tStatus) = false from by decide, Bool.or_false]
                      have ns6 : Hid (hasN ks j tFilter = hasN ks (j + 1) tFilter) := by show _ = _; rw [NS.out, hn, show (([78, 111, 110, 99, 117, 114, 114, 101, 110, 116, 86, 101, 114, 115, 105, 111, 110, 69, 120, 112, 105, 114, 97, 116, 105, 111, 110] : List UInt8) == tFilter) = false from by decide, Bool.or_false]
                      by_cases hp : 0 < D
                      · have HSM' : Hid (SomeInv { r with nonc := D } true) := by
                          obtain ⟨⟨s1, s2, s3⟩, _⟩ := HSM.out
                          refine ⟨by unfold RuBd at *; simp only; omega, ?_⟩
                          simp only; symm; simp; omega
                        go_wp2
                        go_meet
                        case rel => exact ⟨_, true, _, _, true, rfl, rfl, rfl, rfl, Lib.hid (by rw [HV.out]; simp [hp]), (show Hid _ from fun _ => ⟨by rw [HV.out], ns5.out, ns6.out, HSM'.out⟩), HIP.out⟩
                      · go_wp2
                        go_meet
                        case rel => exact ⟨_, decide (0 < D), _, _, _, rfl, rfl, rfl, rfl, Lib.hid (by rw [HV.out]), (show Hid _ from fun h => by have h' := of_decide_eq_true h; omega), HIP.out⟩
                  · have hn : k.name.toList = [69, 120, 112, 105, 114, 97, 116, 105, 111, 110] := eq_of_beq h3
                    have HV : Hid (partV r k = ({ r with days := daysOf k tDays }, decide (0 < daysOf k tDays))) := by show _ = _; unfold partV; rw [h0, h1, h2, h3]; rfl
                    have hbd := daysOf_bd k tDays
                    obtain ⟨D, hD⟩ : ∃ D, Hid (daysOf k tDays = D) := ⟨_, rfl⟩
                    rw [hD.out] at HV hbd
                    obtain ⟨hd0, hd1⟩ := hbd
                    clear h0 h1 h2 h3
                    go_wp2_with fail
                    refine Calls.mono (rdays_any k a' c' ⟨#[68, 97, 121, 115]⟩ wr HKW.out) ?_
                    rw [show daysOf k (⟨#[68, 97, 121, 115]⟩ : ByteArray).toList = D from by rw [ByteArray.toList_mk]; exact hD.out]
                    rintro e w3 ⟨rfl, hb3⟩
                    have I3 := HI.out.later hb3
                    have c0 : w3.cell? ⟨w.heap.size + 1 + 1, 3, none⟩ = _ := cell_of_heap (x := 3) I3.row
                    have f0 : w3.frozen? ⟨w.heap.size + 1 + 1, 3, none⟩ = false := free_of_heap (x := 3) I3.row
                    have p0' : w3.cell? ⟨wo.heap.size, 0, none⟩ = some (.string k.name) := cell_later hb3 p0
                    simp [RuleV.cells] at c0
                    have HB3 := Lib.hid hb3
                    clear hb3 I3
                    have HIP : Hid (RuInv w (w3.setCell ⟨w.heap.size + 1 + 1, 3, none⟩ (.int .i64 D)) (.node n tx ks) (some ⟨b, off, none⟩) c { r with days := D }) :=
                      HI.out.part (PartOut.set (r := r) HI.out.row HB3.out (by simp [RuleV.cells]))
                    have ns5 : Hid (hasN ks j tStatus = hasN ks (j + 1) tStatus) := by show _ = _; rw [NS.out, hn, show (([69, 120, 112, 105, 114, 97, 116, 105, 111, 110] : List UInt8) == tStatus) = false from by decide, Bool.or_false]
                    have ns6 : Hid (hasN ks j tFilter = hasN ks (j + 1) tFilter) := by show _ = _; rw [NS.out, hn, show (([69, 120, 112, 105, 114, 97, 116, 105, 111, 110] : List UInt8) == tFilter) = false from by decide, Bool.or_false]
                    by_cases hp : 0 < D
                    · have HSM' : Hid (SomeInv { r with days := D } true) := by
                        obtain ⟨⟨s1, s2, s3⟩, _⟩ := HSM.out
                        refine ⟨by unfold RuBd at *; simp only; omega, ?_⟩
                        simp only; symm; simp; omega
                      go_wp2
                      go_meet
                      case rel => exact ⟨_, true, _, _, true, rfl, rfl, rfl, rfl, Lib.hid (by rw [HV.out]; simp [hp]), (show Hid _ from fun _ => ⟨by rw [HV.out], ns5.out, ns6.out, HSM'.out⟩), HIP.out⟩
                    · go_wp2
                      go_meet
                      case rel => exact ⟨_, decide (0 < D), _, _, _, rfl, rfl, rfl, rfl, Lib.hid (by rw [HV.out]), (show Hid _ from fun h => by have h' := of_decide_eq_true h; omega), HIP.out⟩
                · have hn : k.name.toList = [70, 105, 108, 116, 101, 114] := eq_of_beq h2
                  have HV : Hid (partV r k = if k.text.toList.isEmpty then (match k.kids with | [] => (r, true) | [p] => ({ r with pre := p.text }, p.name.toList == tPrefix && leafB p 100) | _ => (r, false)) else (r, false)) := by show _ = _; unfold partV; rw [h0, h1, h2]; rfl
                  have ns5 : Hid (hasN ks j tStatus = hasN ks (j + 1) tStatus) := by show _ = _; rw [NS.out, hn, show (([70, 105, 108, 116, 101, 114] : List UInt8) == tStatus) = false from by decide, Bool.or_false]
                  have ns6 : Hid (true = hasN ks (j + 1) tFilter) := by show _ = _; rw [NS.out, hn, show (([70, 105, 108, 116, 101, 114] : List UInt8) == tFilter) = true from by decide, Bool.or_true]
                  have c0 : wr.cell? ⟨w.heap.size + 1 + 1, 1, none⟩ = _ := cell_of_heap (x := 1) HI.out.row
                  have f0 : wr.frozen? ⟨w.heap.size + 1 + 1, 1, none⟩ = false := free_of_heap (x := 1) HI.out.row
                  simp [RuleV.cells] at c0
                  have HSET : Hid (∀ W p, Below wr.heap.size wr W → RuInv w (W.setCell ⟨w.heap.size + 1 + 1, 1, none⟩ (.string p)) (.node n tx ks) (some ⟨b, off, none⟩) c { r with pre := p }) :=
                    fun W p hW => HI.out.part (PartOut.set (r := r) HI.out.row hW (by simp [RuleV.cells]))
                  clear h0 h1 h2
                  match hks : k.kids, HKW with
                  | [], _ =>
                    rw [hks] at HV p2
                    simp only [List.length_nil] at p2
                    cases ht : k.text.toList.isEmpty
                    · rw [ht] at HV
                      have ht' : ¬ k.text.toList = [] := by simpa using ht
                      go_wp2
                      go_meet
                      case rel => exact ⟨r, false, _, _, _, rfl, rfl, rfl, rfl, Lib.hid (by rw [HV.out]; rfl), (show Hid _ from fun h => by cases h), HI.out⟩
                    · rw [ht] at HV
                      have ht' : k.text.toList = [] := by simpa using ht
                      go_wp2
                      go_meet
                      case rel => exact ⟨r, true, _, _, _, rfl, rfl, rfl, rfl, Lib.hid (by rw [HV.out]; rfl), (show Hid _ from fun _ => ⟨by rw [HV.out]; rfl, ns5.out, ns6.out, HSM.out⟩), HI.out⟩
                  | p :: q :: l, _ =>
                    rw [hks] at HV p2
                    simp only [List.length_cons] at p2
                    have l0 : ((((l.length + 1 + 1 : Nat)) : Int) == 0) = false := beq_eq_false_iff_ne.2 (by omega)
                    have l1 : ((((l.length + 1 + 1 : Nat)) : Int) == 1) = false := beq_eq_false_iff_ne.2 (by omega)
                    have HOK : Hid ((partV r k).2 = false) := by
                      show _ = _
                      rw [HV.out]
                      split <;> rfl
                    obtain ⟨L, hL⟩ : ∃ L, L = l.length + 1 + 1 := ⟨_, rfl⟩
                    rw [← hL] at p2 l0 l1
                    clear hL
                    cases ht : k.text.toList.isEmpty
                    · have ht' : ¬ k.text.toList = [] := by simpa using ht
                      go_wp2
                      go_meet
                      case rel => exact ⟨r, false, _, _, _, rfl, rfl, rfl, rfl, HOK.out.symm, (show Hid _ from fun h => by cases h), HI.out⟩
                    · have ht' : k.text.toList = [] := by simpa using ht
                      go_wp2
                      go_meet
                      case rel => exact ⟨r, false, _, _, _, rfl, rfl, rfl, rfl, HOK.out.symm, (show Hid _ from fun h => by cases h), HI.out⟩
                  | [p], HKW =>
                    rw [hks] at HV p2
                    simp only [List.length_cons, List.length_nil, Nat.zero_add] at p2
                    obtain ⟨b1, off1, a1, c1, hae, m0, m1, m2, _⟩ := HKW.out.kid (j := 0) rfl
                    subst hae
                    simp only [Nat.zero_mul, Nat.add_zero] at m0 m1 m2
                    cases hpn : (p.name.toList == tPrefix)
                    · have HOK : Hid ((partV r k).2 = false) := by
                        show _ = _
                        rw [HV.out]
                        split
                        · simp only [hpn]; rfl
                        · rfl
                      unfold tPrefix at hpn
                      cases ht : k.text.toList.isEmpty
                      · have ht' : ¬ k.text.toList = [] := by simpa using ht
                        go_wp2
                        go_meet
                        case rel => exact ⟨r, false, _, _, _, rfl, rfl, rfl, rfl, HOK.out.symm, (show Hid _ from fun h => by cases h), HI.out⟩
                      · have ht' : k.text.toList = [] := by simpa using ht
                        go_wp2
                        go_meet
                        case rel => exact ⟨r, false, _, _, _, rfl, rfl, rfl, rfl, HOK.out.symm, (show Hid _ from fun h => by cases h), HI.out⟩
                    · have hpe : p.name.toList = [80, 114, 101, 102, 105, 120] := eq_of_beq hpn
                      cases ht : k.text.toList.isEmpty
                      · have ht' : ¬ k.text.toList = [] := by simpa using ht
                        rw [ht] at HV
                        go_wp2
                        go_meet
                        case rel => exact ⟨_, false, _, _, _, rfl, rfl, rfl, rfl, Lib.hid (by rw [HV.out]; rfl), (show Hid _ from fun h => by cases h), (show Hid _ from HSET.out _ p.text (Below.refl _ _))⟩
                      · have ht' : k.text.toList = [] := by simpa using ht
                        rw [ht] at HV
                        have HV2 : Hid (partV r k = ({ r with pre := p.text }, leafB p 100)) := by show _ = _; rw [HV.out]; simp only [if_true, hpn, Bool.true_and]
                        go_wp2_with fail
                        refine Calls.mono (rleaf_any p a1 c1 100 wr) ?_
                        rintro e w3 ⟨rfl, hb3⟩
                        replace p0 := cell_later hb3 p0
                        replace p1 := cell_later hb3 p1
                        replace p2 := cell_later hb3 p2
                        replace m0 := cell_later hb3 m0
                        replace m1 := cell_later hb3 m1
                        replace c0 := cell_later hb3 c0
                        have f3 : w3.frozen? ⟨w.heap.size + 1 + 1, 1, none⟩ = false := by rw [hb3.frozen (by simp; omega)]; exact f0
                        have HB3 := Lib.hid hb3
                        clear hb3 f0
                        go_wp2
                        go_meet
                        case rel => exact ⟨{ r with pre := p.text }, leafB p 100, _, _, _, rfl, rfl, rfl, rfl, Lib.hid (by rw [HV2.out]), (show Hid _ from fun _ => ⟨by rw [HV2.out], ns5.out, ns6.out, HSM.out⟩), (show Hid _ from HSET.out _ p.text HB3.out)⟩
              · have hn : k.name.toList = [83, 116, 97, 116, 117, 115] := eq_of_beq h1
                have HV : Hid (partV r k = ({ r with on := k.text.toList == tEnabled }, leafB k 100 && (k.text.toList == tEnabled || k.text.toList == tDisabled))) := by show _ = _; unfold partV; rw [h0, h1]; rfl
                clear h0 h1
                go_wp2_with fail
                refine Calls.mono (rleaf_any k a' c' 100 wr) ?_
                rintro e w3 ⟨rfl, hb3⟩
                have I3 := HI.out.later hb3
                have c0 : w3.cell? ⟨w.heap.size + 1 + 1, 2, none⟩ = _ := cell_of_heap (x := 2) I3.row
                have f0 : w3.frozen? ⟨w.heap.size + 1 + 1, 2, none⟩ = false := free_of_heap (x := 2) I3.row
                have p1' : w3.cell? ⟨wo.heap.size, 1, none⟩ = some (.string k.text) := cell_later hb3 p1
                have p0' : w3.cell? ⟨wo.heap.size, 0, none⟩ = some (.string k.name) := cell_later hb3 p0
                simp [RuleV.cells] at c0
                have HB3 := Lib.hid hb3
                have I3H := Lib.hid I3
                clear hb3 I3
                have HIP : Hid (∀ v, v = (k.text.toList == tEnabled) → RuInv w (w3.setCell ⟨w.heap.size + 1 + 1, 2, none⟩ (.bool v)) (.node n tx ks) (some ⟨b, off, none⟩) c { r with on := k.text.toList == tEnabled }) :=
                  fun v hv => HI.out.part (PartOut.set (r := r) HI.out.row HB3.out (by rw [hv]; simp [RuleV.cells]))
                have ns5 : Hid (true = hasN ks (j + 1) tStatus) := by show _ = _; rw [NS.out, hn, show (([83, 116, 97, 116, 117, 115] : List UInt8) == tStatus) = true from by decide, Bool.or_true]
                have ns6 : Hid (hasN ks j tFilter = hasN ks (j + 1) tFilter) := by show _ = _; rw [NS.out, hn, show (([83, 116, 97, 116, 117, 115] : List UInt8) == tFilter) = false from by decide, Bool.or_false]
                cases hl1 : leafB k 100
                · rw [hl1] at HV
                  cases he : (k.text.toList == tEnabled)
                  all_goals
                    have he' := he
                    unfold tEnabled at he'
                    go_wp2
                    go_meet
                    case rel => exact ⟨_, false, _, _, _, rfl, rfl, rfl, rfl, Lib.hid (by rw [HV.out]; rfl), (show Hid _ from fun h => by cases h), (show Hid _ from HIP.out _ he.symm)⟩
                · rw [hl1] at HV
                  cases he : (k.text.toList == tEnabled)
                  · have he' := he
                    unfold tEnabled at he'
                    cases hd : (k.text.toList == tDisabled)
                    all_goals
                      have hd' := hd
                      unfold tDisabled at hd'
                      have HOK : Hid ((partV r k).2 = (k.text.toList == tDisabled)) := by show _ = _; rw [HV.out, he]; rfl
                      rw [hd] at HOK
                      go_wp2
                      go_meet
                      case rel => exact ⟨{ r with on := k.text.toList == tEnabled }, _, _, _, _, rfl, rfl, rfl, rfl, HOK.out.symm, (show Hid _ from fun _ => ⟨by rw [HV.out], ns5.out, ns6.out, HSM.out⟩), (show Hid _ from HIP.out _ he.symm)⟩
                  · have he' := eq_of_beq he
                    unfold tEnabled at he'
                    have HOK : Hid ((partV r k).2 = true) := by show _ = _; rw [HV.out, he]; rfl
                    go_wp2
                    go_meet
                    case rel => exact ⟨{ r with on := k.text.toList == tEnabled }, true, _, _, _, rfl, rfl, rfl, rfl, HOK.out.symm, (show Hid _ from fun _ => ⟨by rw [HV.out], ns5.out, ns6.out, HSM.out⟩), (show Hid _ from HIP.out _ he.symm)⟩
            · have HV : Hid (partV r k = ({ r with id := k.text }, leafB k 100)) := by show _ = _; unfold partV; rw [h0]; rfl
              have hn : k.name.toList = [73, 68] := eq_of_beq h0
              clear h0
              go_wp2_with fail
              refine Calls.mono (rleaf_any k a' c' 100 wr) ?_
              rintro e w3 ⟨rfl, hb3⟩
              have I3 := HI.out.later hb3
              have c0 : w3.cell? ⟨w.heap.size + 1 + 1, 0, none⟩ = _ := cell_of_heap (x := 0) I3.row
              have f0 : w3.frozen? ⟨w.heap.size + 1 + 1, 0, none⟩ = false := free_of_heap (x := 0) I3.row
              have p1' : w3.cell? ⟨wo.heap.size, 1, none⟩ = some (.string k.text) := cell_later hb3 p1
              have p0' : w3.cell? ⟨wo.heap.size, 0, none⟩ = some (.string k.name) := cell_later hb3 p0
              simp [RuleV.cells] at c0
              have HB3 := Lib.hid hb3
              have I3H := Lib.hid I3
              clear hb3 I3
              go_wp2
              go_meet
              case rel =>
                refine ⟨{ r with id := k.text }, leafB k 100, _, _, _, rfl, rfl, rfl, rfl, Lib.hid (by rw [HV.out]), (show Hid _ from fun _ => ⟨by rw [HV.out], ?_, ?_, HSM.out⟩), (show Hid _ from HI.out.part (PartOut.set (r := r) HI.out.row HB3.out (by simp [RuleV.cells])))⟩
                · rw [NS.out, hn, show (([73, 68] : List UInt8) == tStatus) = false from by decide, Bool.or_false]
                · rw [NS.out, hn, show (([73, 68] : List UInt8) == tFilter) = false from by decide, Bool.or_false]
          case rest =>
            obtain ⟨r', ok, b5, b6, b7, rfl, rfl, rfl, rfl, HOK, HR', HI'⟩ := hcut
            cases ok with
            | false =>
              have HRES : Hid (res = none) := by
                show _ = _
                rw [← hres.out]
                refine HNO.out ?_
                rw [HST.out, ← HOK.out]
                rfl
              go_wp2_with (first
                | (refine wpList_load_row (by rfl) 34 _ (by rfl) (w.heap.size + 2) (by rfl) 34 _ (0, 0) _ (by exact HI'.out.row) Tryd.underlying34 rfl (by kernel_rfl) ?_)
                | (refine wpList_store_row (by rfl) 34 _ _ (by rfl) (w.heap.size + 1) _ (by rfl) (by rfl) 34 rule0.cells.toArray (by exact HI'.out.res) (by kernel_rfl) (by kernel_rfl) (by kernel_rfl) ?_))
              refine bodyPost_ret (results_cell_tmp rfl _ _ (w.heap.size + 1) 34 _ _ rfl (setRow_heap _ _ rule0.cells.toArray _ _ _ HI'.out.res) Tryd.underlying34 rfl (by kernel_rfl)) rfl ?_
              show RuleOut res w _ _
              rw [HRES.out]
              exact ⟨⟨r', rfl⟩, below_one_row _ _ _ _ _ HI'.out.below (by omega)⟩
            | true =>
              obtain ⟨rfl, rfl, rfl, hsm'⟩ := HR'.out rfl
              have HSM' := Lib.hid hsm'
              have HF' : Hid (ruleKids rule0 [] ks = ruleKids (partV r k).1 (namesTo ks (j + 1)) (ks.drop (j + 1))) := by
                show _ = _
                rw [HST.out, ← HOK.out]
                rfl
              clear hsm'
              go_wp2
              go_roundg (ks.length - (j + 1))
              case measure => omega
              case rel => exact ⟨j + 1, _, b7, by omega, Nat.le_refl _, by go_num, rfl, rfl, rfl, HSM'.out, HF'.out, HI'.out⟩
    · obtain rfl : i = ks.length := by omega
      have HRK : Hid (ruleKids rule0 [] ks = some r) := by
        show _ = _
        rw [HF.out, List.drop_length]; simp [ruleKids]
      have HFL : Hid (fl = decide (0 < r.days + r.nonc + r.abort)) := HSM.out.2
      have HRES : Hid (res = if n.toList == tRule && tx.toList.isEmpty && hasN ks ks.length tStatus && hasN ks ks.length tFilter && fl then some r else none) := by
        show _ = _
        rw [← hres.out]
        unfold ruleOf hasN namesTo
        simp only [Tree.kids, Tree.name, Tree.text]
        rw [HRK.out, HFL.out, List.take_length]
        rfl
      generalize hasN ks ks.length tStatus = c1 at *
      generalize hasN ks ks.length tFilter = c2 at *
      have q1 : wo.cell? ⟨w.heap.size, 1, none⟩ = some (.string tx) := cell_of_heap HI.out.box
      clear HFL HRK HF HSM
      cases hn : (n.toList == tRule)
      · have HN : Hid (res = none) := by show _ = _; rw [HRES.out, hn]; rfl
        unfold tRule at hn
        go_wp2_with (first
          | (refine wpList_load_row (by rfl) 34 _ (by rfl) (w.heap.size + 2) (by rfl) 34 _ (0, 0) _ (by exact HI.out.row) Tryd.underlying34 rfl (by kernel_rfl) ?_)
          | (refine wpList_store_row (by rfl) 34 _ _ (by rfl) (w.heap.size + 1) _ (by rfl) (by rfl) 34 rule0.cells.toArray (by exact HI.out.res) (by kernel_rfl) (by kernel_rfl) (by kernel_rfl) ?_))
        refine bodyPost_ret (results_cell_tmp rfl _ _ (w.heap.size + 1) 34 _ _ rfl (setRow_heap _ _ rule0.cells.toArray _ _ _ HI.out.res) Tryd.underlying34 rfl (by kernel_rfl)) rfl ?_
        show RuleOut res w _ _
        rw [HN.out]
        exact ⟨⟨r, rfl⟩, below_one_row _ _ _ _ _ HI.out.below (by omega)⟩
      · have hn' := eq_of_beq hn
        rw [hn, Bool.true_and] at HRES
        unfold tRule at hn'
        cases ht : tx.toList.isEmpty
        · have HN : Hid (res = none) := by show _ = _; rw [HRES.out, ht]; rfl
          have ht' : ¬ tx.toList = [] := by simpa using ht
          go_wp2_with (first
            | (refine wpList_load_row (by rfl) 34 _ (by rfl) (w.heap.size + 2) (by rfl) 34 _ (0, 0) _ (by exact HI.out.row) Tryd.underlying34 rfl (by kernel_rfl) ?_)
            | (refine wpList_store_row (by rfl) 34 _ _ (by rfl) (w.heap.size + 1) _ (by rfl) (by rfl) 34 rule0.cells.toArray (by exact HI.out.res) (by kernel_rfl) (by kernel_rfl) (by kernel_rfl) ?_))
          refine bodyPost_ret (results_cell_tmp rfl _ _ (w.heap.size + 1) 34 _ _ rfl (setRow_heap _ _ rule0.cells.toArray _ _ _ HI.out.res) Tryd.underlying34 rfl (by kernel_rfl)) rfl ?_
          show RuleOut res w _ _
          rw [HN.out]
          exact ⟨⟨r, rfl⟩, below_one_row _ _ _ _ _ HI.out.below (by omega)⟩
        · have ht' : tx.toList = [] := by simpa using ht
          rw [ht, Bool.true_and] at HRES
          cases c1
          · have HN : Hid (res = none) := by show _ = _; rw [HRES.out]; rfl
            go_wp2_with (first
              | (refine wpList_load_row (by rfl) 34 _ (by rfl) (w.heap.size + 2) (by rfl) 34 _ (0, 0) _ (by exact HI.out.row) Tryd.underlying34 rfl (by kernel_rfl) ?_)
              | (refine wpList_store_row (by rfl) 34 _ _ (by rfl) (w.heap.size + 1) _ (by rfl) (by rfl) 34 rule0.cells.toArray (by exact HI.out.res) (by kernel_rfl) (by kernel_rfl) (by kernel_rfl) ?_))
            refine bodyPost_ret (results_cell_tmp rfl _ _ (w.heap.size + 1) 34 _ _ rfl (setRow_heap _ _ rule0.cells.toArray _ _ _ HI.out.res) Tryd.underlying34 rfl (by kernel_rfl)) rfl ?_
            show RuleOut res w _ _
            rw [HN.out]
            exact ⟨⟨r, rfl⟩, below_one_row _ _ _ _ _ HI.out.below (by omega)⟩
          · cases c2
            · have HN : Hid (res = none) := by show _ = _; rw [HRES.out]; rfl
              go_wp2_with (first
                | (refine wpList_load_row (by rfl) 34 _ (by rfl) (w.heap.size + 2) (by rfl) 34 _ (0, 0) _ (by exact HI.out.row) Tryd.underlying34 rfl (by kernel_rfl) ?_)
                | (refine wpList_store_row (by rfl) 34 _ _ (by rfl) (w.heap.size + 1) _ (by rfl) (by rfl) 34 rule0.cells.toArray (by exact HI.out.res) (by kernel_rfl) (by kernel_rfl) (by kernel_rfl) ?_))
              refine bodyPost_ret (results_cell_tmp rfl _ _ (w.heap.size + 1) 34 _ _ rfl (setRow_heap _ _ rule0.cells.toArray _ _ _ HI.out.res) Tryd.underlying34 rfl (by kernel_rfl)) rfl ?_
              show RuleOut res w _ _
              rw [HN.out]
              exact ⟨⟨r, rfl⟩, below_one_row _ _ _ _ _ HI.out.below (by omega)⟩
            · cases fl
              · have HN : Hid (res = none) := by show _ = _; rw [HRES.out]; rfl
                go_wp2_with (first
                  | (refine wpList_load_row (by rfl) 34 _ (by rfl) (w.heap.size + 2) (by rfl) 34 _ (0, 0) _ (by exact HI.out.row) Tryd.underlying34 rfl (by kernel_rfl) ?_)
                  | (refine wpList_store_row (by rfl) 34 _ _ (by rfl) (w.heap.size + 1) _ (by rfl) (by rfl) 34 rule0.cells.toArray (by exact HI.out.res) (by kernel_rfl) (by kernel_rfl) (by kernel_rfl) ?_))
                refine bodyPost_ret (results_cell_tmp rfl _ _ (w.heap.size + 1) 34 _ _ rfl (setRow_heap _ _ rule0.cells.toArray _ _ _ HI.out.res) Tryd.underlying34 rfl (by kernel_rfl)) rfl ?_
                show RuleOut res w _ _
                rw [HN.out]
                exact ⟨⟨r, rfl⟩, below_one_row _ _ _ _ _ HI.out.below (by omega)⟩
              · have HN : Hid (res = some r) := by show _ = _; rw [HRES.out]; rfl
                go_wp2_with (first
                  | (refine wpList_load_row (by rfl) 34 _ (by rfl) (w.heap.size + 2) (by rfl) 34 _ (0, 0) _ (by exact HI.out.row) Tryd.underlying34 rfl (by kernel_rfl) ?_)
                  | (refine wpList_store_row (by rfl) 34 _ _ (by rfl) (w.heap.size + 1) _ (by rfl) (by rfl) 34 rule0.cells.toArray (by exact HI.out.res) (by kernel_rfl) (by kernel_rfl) (by kernel_rfl) ?_))
                refine bodyPost_ret (results_cell_tmp rfl _ _ (w.heap.size + 1) 34 _ _ rfl (setRow_heap _ _ rule0.cells.toArray _ _ _ HI.out.res) Tryd.underlying34 rfl (by kernel_rfl)) rfl ?_
                show RuleOut res w _ _
                rw [HN.out]
                exact ⟨rfl, below_one_row _ _ _ _ _ HI.out.below (by omega)⟩

end Go.Proofs.YtnnfcbebjbfkoaaDoor
