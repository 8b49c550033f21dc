/-
  The writer's number and flag: the walks.
-/
import Derived.Test.YtajmkkjlhmeolaaGreatDoorMtWrite
namespace Go.Proofs.YtajmkkjlhmeolaaGreatDoor
open Go.RowKit

theorem numL_pos (n : Int) : 1 ≤ (numL n).length := by unfold numL fieldL; simp only [List.length_append, List.length_cons]; omega
theorem flat_len (ns : List Int) : ns.length ≤ (ns.flatMap numL).length := by
  induction ns with
  | nil => simp
  | cons x l ih => have := numL_pos x; simp only [List.flatMap_cons, List.length_append, List.length_cons]; omega

set_option maxHeartbeats 2000000 in
set_option maxRecDepth 100000 in
theorem wnumber_any (base b : Nat) (l : List UInt8) (v : Value) (w : World) (h : WrAt w base b l v) (hG : Glob w) (hb9 : 9 ≤ b) (ns : List Int) (hok : ∀ n ∈ ns, IntOK n) (a : Option Addr) (c : Nat)
    (hS : ∀ i x, ns[i]? = some x → ∃ G o, a = some ⟨G, o, none⟩ ∧ w.cell? ⟨G, o + i, none⟩ = some (.int .i64 x) ∧ G ≠ b ∧ v.ownBlock ≠ some G)
    (hlen : (l ++ ns.flatMap numL).length ≤ 140737488355328) :
    Calls Tryz.prog 70 #[.pointer (some ⟨b, 0, none⟩), .slice a ns.length c] w fun e w' => e = .returned (.tuple #[]) ∧ ∃ v', WrAt w' base b (l ++ ns.flatMap numL) v' ∧ Wrote w w' b v v' := by
  have HG := Lib.hid hG
  have HS := Lib.hid hS
  have HW0 := Lib.hid h
  have HLEN := Lib.hid hlen
  have HOK := Lib.hid hok
  have hsl : ns.length ≤ 140737488355328 := by have := flat_len ns; rw [List.length_append] at hlen; omega
  clear h hG hS hlen hok
  go_enter Tryz.func70, Tryz.ntmps70
  go_wp2
  go_loopg [5, 8] ns.length (fun gg s5 s8 wr => ∃ (i : Nat) (v' : Value), i ≤ ns.length ∧ ns.length - i ≤ gg ∧ s8 = .int .i64 i ∧ Hid (WrAt wr base b (l ++ (ns.take i).flatMap numL) v') ∧ Hid (Wrote w wr b v v'))
  case atStart => exact ⟨0, v, Nat.zero_le _, by omega, rfl, (show Hid _ from by show WrAt _ _ _ _ _; simpa using HW0.out), Wrote.refl _ _ _⟩
  case round =>
    obtain ⟨i, v', hin, hgg, rfl, HW, HR⟩ := hrel
    have GW : Hid (Glob wr) := HG.out.under hb9 (HR.out.below HW0.out)
    by_cases hlti : i < ns.length
    · obtain ⟨n, hn⟩ : ∃ s, ns[i]? = some s := ⟨_, List.getElem?_eq_getElem hlti⟩
      obtain ⟨G, o, rfl, hc0, hne, hv⟩ := HS.out i n hn
      have hc : wr.cell? ⟨G, o + i, none⟩ = some (.int .i64 n) := HR.out.cell hc0 hne hv
      have HTK : Hid ((ns.take (i + 1)).flatMap numL = (ns.take i).flatMap numL ++ [Lib.itoa n].flatMap fieldL) := by show _ = _; rw [List.take_add_one, hn]; simp [numL]
      have HLN : Hid ((l ++ (ns.take i).flatMap numL ++ [Lib.itoa n].flatMap fieldL).length ≤ 140737488355328) := by
        show _ ≤ _
        have h1 := HLEN.out
        have h2 : ns.flatMap numL = (ns.take i).flatMap numL ++ (numL n ++ (ns.drop (i + 1)).flatMap numL) := by
          conv => lhs; rw [← List.take_append_drop i ns, drop_at hn, List.flatMap_append, List.flatMap_cons]
        rw [h2] at h1
        simp only [List.length_append, List.flatMap_cons, List.flatMap_nil, List.append_nil, numL] at h1 ⊢
        omega
      obtain ⟨I, hI⟩ : ∃ I, Hid (Lib.itoa n = I) := ⟨_, rfl⟩
      have HN : IntOK n := HOK.out n (List.mem_of_getElem? hn)
      have HIt : Hid (∀ W, Glob W → Calls Tryz.prog 58 #[.int .i64 n] W fun e w' => e = .returned (.string ⟨I.toArray⟩) ∧ Below W.heap.size W w') := fun W hg => by rw [← hI.out]; exact itoa_any _ HN W hg
      rw [hI.out] at HTK HLN
      have hlz : (i : Int) < (ns.length : Int) := by omega
      have HN1 := Lib.hid hn
      clear hn hc0 hne hv HN
      go_wp2_with fail
      refine (HIt.out _ GW.out).mono ?_
      rintro e w2 ⟨rfl, hb2⟩
      have W2 := Lib.hid (HW.out.later hb2)
      have R2 := Lib.hid (HR.out.later hb2)
      have G2 := Lib.hid (GW.out.later hb2)
      clear hb2
      go_wp2_with fail
      have hba : Below w2.heap.size w2 (w2.alloc (.cells #[.string ⟨I.toArray⟩] 9)) := below_alloc (Below.refl _ _) (Nat.le_refl _) _
      have hw3 := W2.out.later hba
      refine (wtext_any base b _ v' _ hw3 (G2.out.later hba) hb9 [I] w2.heap.size (fun j s hj => ?_) (by have := W2.out.lt; omega) (fun e => by have := (W2.out.own.lt _ e).2; omega) (by simp) HLN.out).mono ?_
      · obtain rfl : j = 0 := by have := (List.getElem?_eq_some_iff.1 hj).1; simpa using this
        simp only [List.getElem?_cons_zero, Option.some.injEq] at hj
        subst hj
        exact cell_new _ _ _ _ _ _ rfl rfl
      rintro e w4 ⟨rfl, v4, hw4, hr4⟩
      have W4 : Hid (WrAt w4 base b (l ++ (ns.take (i + 1)).flatMap numL) v4) := by
        show WrAt _ _ _ _ _
        rw [HTK.out, ← List.append_assoc]; exact hw4
      have R4 := Lib.hid ((R2.out.later hba).trans hr4)
      clear hw4 hr4 hw3 hba
      go_wp2
      go_roundg (ns.length - (i + 1))
      case measure => omega
      case rel => exact ⟨i + 1, v4, by omega, Nat.le_refl _, by go_num, W4, R4⟩
    · obtain rfl : i = ns.length := by omega
      rw [List.take_of_length_le (Nat.le_refl _)] at HW
      go_wp2
      go_end0
      exact ⟨rfl, v', HW.out, HR.out⟩

theorem bits_num (b : Bool) : (if b then (1 : Int) else 0) = 1 ∨ (if b then (1 : Int) else 0) = 0 := by cases b <;> simp

set_option maxHeartbeats 2000000 in
set_option maxRecDepth 100000 in
theorem wflag_any (base b : Nat) (l : List UInt8) (v : Value) (w : World) (h : WrAt w base b l v) (hG : Glob w) (hb9 : 9 ≤ b) (bs : List Bool) (G : Nat)
    (hS : ∀ i x, bs[i]? = some x → w.cell? ⟨G, i, none⟩ = some (.bool x)) (hne : G ≠ b) (hv : v.ownBlock ≠ some G)
    (hlen : (l ++ (bs.map fun x => if x then (1 : Int) else 0).flatMap numL).length ≤ 140737488355328) :
    Calls Tryz.prog 71 #[.pointer (some ⟨b, 0, none⟩), .slice (some ⟨G, 0, none⟩) bs.length bs.length] w fun e w' => e = .returned (.tuple #[]) ∧ ∃ v', WrAt w' base b (l ++ (bs.map fun x => if x then (1 : Int) else 0).flatMap numL) v' ∧ Wrote w w' b v v' := by
  have HG := Lib.hid hG
  have HS := Lib.hid hS
  have HW0 := Lib.hid h
  have HLEN := Lib.hid hlen
  have HNE := Lib.hid hne
  have HV := Lib.hid hv
  have hsl : bs.length ≤ 140737488355328 := by have := flat_len (bs.map fun x => if x then (1 : Int) else 0); rw [List.length_append] at hlen; rw [List.length_map] at this; omega
  obtain ⟨ns, hns⟩ : ∃ ns, Hid ((bs.map fun x => if x then (1 : Int) else 0) = ns) := ⟨_, rfl⟩
  rw [hns.out] at HLEN ⊢
  clear h hG hS hlen hne hv
  go_enter Tryz.func71, Tryz.ntmps71
  go_wp2
  go_loopg [5, 8] bs.length (fun gg s5 s8 wr => ∃ (i : Nat) (v' : Value), i ≤ bs.length ∧ bs.length - i ≤ gg ∧ s8 = .int .i64 i ∧ Hid (WrAt wr base b (l ++ (ns.take i).flatMap numL) v') ∧ Hid (Wrote w wr b v v'))
  case atStart => exact ⟨0, v, Nat.zero_le _, by omega, rfl, (show Hid _ from by show WrAt _ _ _ _ _; simpa using HW0.out), Wrote.refl _ _ _⟩
  case round =>
    obtain ⟨i, v', hin, hgg, rfl, HW, HR⟩ := hrel
    have GW : Hid (Glob wr) := HG.out.under hb9 (HR.out.below HW0.out)
    have hnl : Hid (ns.length = bs.length) := by show _ = _; rw [← hns.out, List.length_map]
    by_cases hlti : i < bs.length
    · obtain ⟨x, hx⟩ : ∃ s, bs[i]? = some s := ⟨_, List.getElem?_eq_getElem hlti⟩
      have hc : wr.cell? ⟨G, i, none⟩ = some (.bool x) := HR.out.cell (HS.out i x hx) HNE.out HV.out
      have hn : ns[i]? = some (if x then (1 : Int) else 0) := by rw [← hns.out, List.getElem?_map, hx]; rfl
      have HTK : Hid ((ns.take (i + 1)).flatMap numL = (ns.take i).flatMap numL ++ [if x then (1 : Int) else 0].flatMap numL) := by show _ = _; rw [List.take_add_one, hn]; simp
      have HLN : Hid ((l ++ (ns.take i).flatMap numL ++ [if x then (1 : Int) else 0].flatMap numL).length ≤ 140737488355328) := by
        show _ ≤ _
        have h1 := HLEN.out
        have h2 : ns.flatMap numL = (ns.take i).flatMap numL ++ (numL (if x then (1 : Int) else 0) ++ (ns.drop (i + 1)).flatMap numL) := by
          conv => lhs; rw [← List.take_append_drop i ns, drop_at hn, List.flatMap_append, List.flatMap_cons]
        rw [h2] at h1
        simp only [List.length_append, List.flatMap_cons, List.flatMap_nil, List.append_nil] at h1 ⊢
        omega
      have hlz : (i : Int) < (bs.length : Int) := by omega
      clear hn hx
      cases x
      all_goals
        simp only [if_true, if_false, Bool.false_eq_true] at HTK HLN
        go_wp2_with fail
        have hba : ∀ m : Int, Below wr.heap.size wr (wr.alloc (.cells #[.int .i64 m] 3)) := fun m => below_alloc (Below.refl _ _) (Nat.le_refl _) _
        refine (wnumber_any base b _ v' _ (HW.out.later (hba _)) (GW.out.later (hba _)) hb9 [_] (fun n hn => ?_) (some ⟨wr.heap.size, 0, none⟩) 1 (fun j y hj => ?_) HLN.out).mono ?_
        · simp only [List.mem_singleton] at hn; subst hn; unfold IntOK; omega
        · obtain rfl : j = 0 := by have := (List.getElem?_eq_some_iff.1 hj).1; simpa using this
          simp only [List.getElem?_cons_zero, Option.some.injEq] at hj
          subst hj
          exact ⟨_, 0, rfl, cell_new _ _ _ _ _ _ rfl rfl, by have := HW.out.lt; omega, fun e => by have := (HW.out.own.lt _ e).2; omega⟩
        rintro e w4 ⟨rfl, v4, hw4, hr4⟩
        have W4 : Hid (WrAt w4 base b (l ++ (ns.take (i + 1)).flatMap numL) v4) := by
          show WrAt _ _ _ _ _
          rw [HTK.out, ← List.append_assoc]; exact hw4
        have R4 := Lib.hid ((HR.out.later (hba _)).trans hr4)
        clear hw4 hr4 hba
        go_wp2
        go_roundg (bs.length - (i + 1))
        case measure => omega
        case rel => exact ⟨i + 1, v4, by omega, Nat.le_refl _, by go_num, W4, R4⟩
    · obtain rfl : i = bs.length := by omega
      rw [List.take_of_length_le (by rw [hnl.out]; exact Nat.le_refl _)] at HW
      clear hnl
      go_wp2
      go_end0
      exact ⟨rfl, v', HW.out, HR.out⟩

end Go.Proofs.YtajmkkjlhmeolaaGreatDoor
