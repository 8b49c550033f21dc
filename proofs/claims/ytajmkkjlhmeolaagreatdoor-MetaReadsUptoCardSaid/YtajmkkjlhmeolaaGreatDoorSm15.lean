/-
  SEVERAL SMALL TEXTS IN ONE.
-/
import Derived.Test.YtajmkkjlhmeolaaGreatDoorMtWr
import Derived.Deep.RegionHeld3
import Derived.Deep.DeepCutAuto
import Derived.Deep.LoopGhost
/-
  The writer's text, number, flag: the walks. (Printed by wip/gen/mtwrite.py.)
-/
namespace Go.Proofs.YtajmkkjlhmeolaaGreatDoor
open Go.RowKit

/-- texts in a block -/
def StrsAt (w : World) (G : Nat) (ss : List (List UInt8)) : Prop := ∀ i s, ss[i]? = some s → w.cell? ⟨G, i, none⟩ = some (.string ⟨s.toArray⟩)

theorem drop_at {α : Type} {l : List α} {i : Nat} {x : α} (h : l[i]? = some x) : l.drop i = x :: l.drop (i + 1) := by
  obtain ⟨h1, h2⟩ := List.getElem?_eq_some_iff.1 h
  rw [List.drop_eq_getElem_cons h1, h2]

theorem field_str (s I : List UInt8) (h : Lib.itoa (s.length : Int) = I) : (⟨I.toArray⟩ : ByteArray) ++ ⟨#[58]⟩ ++ ⟨s.toArray⟩ ++ ⟨#[44]⟩ = ⟨(fieldL s).toArray⟩ := by
  apply ByteArray.ext
  unfold fieldL
  rw [h]
  simp

set_option maxHeartbeats 2000000 in
set_option maxRecDepth 100000 in
theorem wtext_any (base b : Nat) (l : List UInt8) (v : Value) (w : World) (h : WrAt w base b l v) (hG : Glob w) (hb9 : 9 ≤ b) (ss : List (List UInt8)) (G : Nat) (hS : StrsAt w G ss) (hne : G ≠ b) (hv : v.ownBlock ≠ some G) (hlt : G < w.heap.size)
    (hlen : (l ++ ss.flatMap fieldL).length ≤ 140737488355328) :
    Calls Tryz.prog 69 #[.pointer (some ⟨b, 0, none⟩), .slice (some ⟨G, 0, none⟩) ss.length ss.length] w fun e w' => e = .returned (.tuple #[]) ∧ ∃ v', WrAt w' base b (l ++ ss.flatMap fieldL) v' ∧ Wrote w w' b v v' := by
  have HG := Lib.hid hG
  have HS := Lib.hid hS
  have HV := Lib.hid hv
  have HNE := Lib.hid hne
  have HW0 := Lib.hid h
  have HLEN := Lib.hid hlen
  have hsl : ss.length ≤ 140737488355328 := by
    have : ∀ (l : List (List UInt8)), l.length ≤ (l.flatMap fieldL).length := by
      intro l
      induction l with
      | nil => simp
      | cons x l ih => simp only [List.flatMap_cons, List.length_append, List.length_cons, fieldL]; omega
    have := this ss
    rw [List.length_append] at hlen
    omega
  clear h hG hS hv hne hlen
  go_enter Tryz.func69, Tryz.ntmps69
  go_wp2
  go_loopg [5, 8] ss.length (fun gg s5 s8 wr => ∃ (i : Nat) (v' : Value), i ≤ ss.length ∧ ss.length - i ≤ gg ∧ s8 = .int .i64 i ∧ Hid (WrAt wr base b (l ++ (ss.take i).flatMap fieldL) v') ∧ Hid (Wrote w wr b v v'))
  case atStart => exact ⟨0, v, Nat.zero_le _, by omega, rfl, (show Hid _ from by show WrAt _ _ _ _ _; simpa using HW0.out), Wrote.refl _ _ _⟩
  case round =>
    obtain ⟨i, v', hin, hgg, rfl, HW, HR⟩ := hrel
    have GW : Hid (Glob wr) := HG.out.under hb9 (HR.out.below HW0.out)
    by_cases hlti : i < ss.length
    · obtain ⟨s, hs⟩ : ∃ s, ss[i]? = some s := ⟨_, List.getElem?_eq_getElem hlti⟩
      have hc : wr.cell? ⟨G, i, none⟩ = some (.string ⟨s.toArray⟩) := HR.out.cell (HS.out i s hs) HNE.out HV.out
      have hsz : ((⟨s.toArray⟩ : ByteArray).size : Int) = (s.length : Int) := by simp [ByteArray.size]
      have HTK : Hid ((ss.take (i + 1)).flatMap fieldL = (ss.take i).flatMap fieldL ++ fieldL s) := by show _ = _; rw [List.take_add_one, hs]; simp
      have HLN : Hid ((l ++ (ss.take i).flatMap fieldL).length + (fieldL s).length ≤ 140737488355328) := by
        show _ ≤ _
        have h1 := HLEN.out
        have h2 : ss.flatMap fieldL = (ss.take i).flatMap fieldL ++ (fieldL s ++ (ss.drop (i + 1)).flatMap fieldL) := by
          conv => lhs; rw [← List.take_append_drop i ss, drop_at hs, List.flatMap_append, List.flatMap_cons]
        rw [h2] at h1
        simp only [List.length_append] at h1 ⊢
        omega
      have hsl2 : s.length ≤ 140737488355328 := by have := HLN.out; simp only [List.length_append, fieldL, List.length_cons] at this; omega
      obtain ⟨I, hI⟩ : ∃ I, Hid (Lib.itoa (s.length : Int) = I) := ⟨_, rfl⟩
      have hIl : I.length ≤ 21 := by rw [← hI.out]; exact Lib.itoa_length_le _ (by omega) (by omega)
      have n1 : ¬ 9223372036854775807 < I.length + 1 := by omega
      have n2 : ¬ 9223372036854775807 < I.length + 1 + s.length := by omega
      have n3 : ¬ 9223372036854775807 < I.length + 1 + s.length + 1 := by omega
      have HIt : Hid (∀ W, Glob W → Calls Tryz.prog 58 #[.int .i64 (s.length : Int)] W fun e w' => e = .returned (.string ⟨I.toArray⟩) ∧ Below W.heap.size W w') := fun W hg => by rw [← hI.out]; exact itoa_any _ (by unfold IntOK; omega) W hg
      have HFS := Lib.hid (field_str s I hI.out)
      have hlz : (i : Int) < (ss.length : Int) := by omega
      have HS1 := Lib.hid hs
      have HSZ := Lib.hid hsz
      clear hs hsz
      go_wp2_with fail
      refine wp_region_held_drew (S := (fun _ => True)) (by kernel_rfl) trivial (fun hS0 => ?_)
      have WX := Lib.hid (HW.out.later (Below.refl _ _).drew)
      have RX := Lib.hid (HR.out.later (Below.refl _ _).drew)
      have GX := Lib.hid (GW.out.later (Below.refl _ _).drew)
      generalize wr.drew = wd at WX RX GX ⊢
      refine wpAnyH_take (i := 0) (oi := { dst := some 12, op := _, type := _, pos := _, after := _, guard := _ }) (v := ?_) rfl (by kernel_rfl) (by kernel_rfl) (by kernel_rfl) (fun _ _ _ h => h) (Or.inl ⟨by kernel_rfl, ?_⟩) (by assumption) ?_
      rotate_left
      · (intro w hSw; (try dsimp only at hSw); go_simp); all_goals (with_reducible rfl)
      try simp only [Act.put, List.setIfInBounds_toArray, List.set_cons_zero, List.set_cons_succ]
      refine wpAnyH_take (i := 1) (oi := { dst := some 13, op := _, type := _, pos := _, after := _, guard := _ }) (v := ?_) rfl (by kernel_rfl) (by kernel_rfl) (by kernel_rfl) (fun _ _ _ h => h) (Or.inl ⟨by kernel_rfl, ?_⟩) (by assumption) ?_
      rotate_left
      · (intro w hSw; (try dsimp only at hSw); go_simp); all_goals (with_reducible rfl)
      try simp only [Act.put, List.setIfInBounds_toArray, List.set_cons_zero, List.set_cons_succ]
      refine wpAnyH_take (i := 2) (oi := { dst := some 14, op := _, type := _, pos := _, after := _, guard := _ }) (v := ?_) rfl (by kernel_rfl) (by kernel_rfl) (by kernel_rfl) (fun _ _ _ h => h) (Or.inl ⟨by kernel_rfl, ?_⟩) (by assumption) ?_
      rotate_left
      · (intro w hSw; (try dsimp only at hSw); go_simp); all_goals (with_reducible rfl)
      try simp only [Act.put, List.setIfInBounds_toArray, List.set_cons_zero, List.set_cons_succ]
      refine wpAnyH_take (i := 3) (oi := { dst := some 15, op := _, type := _, pos := _, after := _, guard := _ }) (v := ?_) rfl (by kernel_rfl) (by kernel_rfl) (by kernel_rfl) (fun _ _ _ h => h) (Or.inl ⟨by kernel_rfl, ?_⟩) (by assumption) ?_
      rotate_left
      · (intro w hSw; (try dsimp only at hSw); go_simp); all_goals (with_reducible rfl)
      try simp only [Act.put, List.setIfInBounds_toArray, List.set_cons_zero, List.set_cons_succ]
      refine wpAnyH_take (i := 4) (oi := { dst := some 16, op := _, type := _, pos := _, after := _, guard := _ }) (v := ?_) rfl (by kernel_rfl) (by kernel_rfl) (by kernel_rfl) (fun _ _ _ h => h) (Or.inl ⟨by kernel_rfl, ?_⟩) (by assumption) ?_
      rotate_left
      · (intro w hSw; (try dsimp only at hSw); go_simp); all_goals (with_reducible rfl)
      try simp only [Act.put, List.setIfInBounds_toArray, List.set_cons_zero, List.set_cons_succ]
      refine wpAnyH_take (i := 7) (oi := { dst := some 19, op := _, type := _, pos := _, after := _, guard := _ }) (v := ?_) rfl (by kernel_rfl) (by kernel_rfl) (by kernel_rfl) (fun _ _ _ h => h) (Or.inl ⟨by kernel_rfl, ?_⟩) (by assumption) ?_
      rotate_left
      · (intro w hSw; (try dsimp only at hSw); go_simp); all_goals (with_reducible rfl)
      try simp only [Act.put, List.setIfInBounds_toArray, List.set_cons_zero, List.set_cons_succ]
      refine wpAnyH_ready (rs := [5]) (by kernel_rfl) (by simp) ?_
      refine (AllReadyH.cons rfl (fun K hK => ?_) AllReadyH.nil)
      rw [if_pos (by kernel_rfl)]
      go_wp2_with fail
      refine (HIt.out _ GX.out).mono ?_
      rintro e w2 ⟨rfl, hb2⟩
      have WX2 := Lib.hid (WX.out.later hb2)
      have RX2 := Lib.hid (RX.out.later hb2)
      clear hb2
      go_wp2_with fail
      refine hK.out _ _ trivial (fun _ => ?_)
      clear hK K
      try simp only [Act.put, List.setIfInBounds_toArray, List.set_cons_zero, List.set_cons_succ]
      refine wpAnyH_take (i := 6) (oi := { dst := some 18, op := _, type := _, pos := _, after := _, guard := _ }) (v := ?_) rfl (by kernel_rfl) (by kernel_rfl) (by kernel_rfl) (fun _ _ _ h => h) (Or.inl ⟨by kernel_rfl, ?_⟩) (by assumption) ?_
      rotate_left
      · (intro w hSw; (try dsimp only at hSw); go_simp); all_goals (with_reducible rfl)
      try simp only [Act.put, List.setIfInBounds_toArray, List.set_cons_zero, List.set_cons_succ]
      refine wpAnyH_take (i := 8) (oi := { dst := some 20, op := _, type := _, pos := _, after := _, guard := _ }) (v := ?_) rfl (by kernel_rfl) (by kernel_rfl) (by kernel_rfl) (fun _ _ _ h => h) (Or.inl ⟨by kernel_rfl, ?_⟩) (by assumption) ?_
      rotate_left
      · (intro w hSw; (try dsimp only at hSw); go_simp); all_goals (with_reducible rfl)
      try simp only [Act.put, List.setIfInBounds_toArray, List.set_cons_zero, List.set_cons_succ]
      refine wpAnyH_take (i := 9) (oi := { dst := some 21, op := _, type := _, pos := _, after := _, guard := _ }) (v := ?_) rfl (by kernel_rfl) (by kernel_rfl) (by kernel_rfl) (fun _ _ _ h => h) (Or.inl ⟨by kernel_rfl, ?_⟩) (by assumption) ?_
      rotate_left
      · (intro w hSw; (try dsimp only at hSw); go_simp); all_goals (with_reducible rfl)
      try simp only [Act.put, List.setIfInBounds_toArray, List.set_cons_zero, List.set_cons_succ]
      refine wpAnyH_ready (rs := [10]) (by kernel_rfl) (by simp) ?_
      refine (AllReadyH.cons rfl (fun K hK => ?_) AllReadyH.nil)
      rw [if_pos (by kernel_rfl)]
      go_wp2_with fail
      rw [HFS.out]
      refine (writeString_any base b _ _ _ _ WX2.out HLN.out).mono ?_
      rintro e w3 ⟨rfl, v3, hw3, hr3⟩
      have W3 := Lib.hid hw3
      have R3 := Lib.hid (RX2.out.trans hr3)
      clear hw3 hr3
      go_wp2_with fail
      refine hK.out _ _ trivial (fun _ => ?_)
      clear hK K
      try simp only [Act.put, List.setIfInBounds_toArray, List.set_cons_zero, List.set_cons_succ]
      refine wpAnyH_done (by kernel_rfl) ?_ _
      have W4 : Hid (WrAt w3 base b (l ++ (ss.take (i + 1)).flatMap fieldL) v3) := by
        show WrAt _ _ _ _ _
        rw [HTK.out, ← List.append_assoc]; exact W3.out
      go_wp2
      go_roundg (ss.length - (i + 1))
      case measure => omega
      case rel => exact ⟨i + 1, v3, by omega, Nat.le_refl _, by go_num, W4, R3⟩
    · obtain rfl : i = ss.length := by omega
      rw [List.take_of_length_le (Nat.le_refl _)] at HW
      go_wp2
      go_end0
      exact ⟨rfl, v', HW.out, HR.out⟩

end Go.Proofs.YtajmkkjlhmeolaaGreatDoor

/-
  The writer's number and flag: the walks.
-/
namespace Go.Proofs.YtajmkkjlhmeolaaGreatDoor
open Go.RowKit

theorem numL_pos (n : Int) : 1 ≤ (numL n).length := by unfold numL fieldL; simp only [List.length_append, List.length_cons]; omega
theorem flat_len (ns : List Int) : ns.length ≤ (ns.flatMap numL).length := by
  induction ns with
  | nil => simp
  | cons x l ih => have := numL_pos x; simp only [List.flatMap_cons, List.length_append, List.length_cons]; omega

set_option maxHeartbeats 2000000 in
set_option maxRecDepth 100000 in
theorem wnumber_any (base b : Nat) (l : List UInt8) (v : Value) (w : World) (h : WrAt w base b l v) (hG : Glob w) (hb9 : 9 ≤ b) (ns : List Int) (hok : ∀ n ∈ ns, IntOK n) (a : Option Addr) (c : Nat)
    (hS : ∀ i x, ns[i]? = some x → ∃ G o, a = some ⟨G, o, none⟩ ∧ w.cell? ⟨G, o + i, none⟩ = some (.int .i64 x) ∧ G ≠ b ∧ v.ownBlock ≠ some G)
    (hlen : (l ++ ns.flatMap numL).length ≤ 140737488355328) :
    Calls Tryz.prog 70 #[.pointer (some ⟨b, 0, none⟩), .slice a ns.length c] w fun e w' => e = .returned (.tuple #[]) ∧ ∃ v', WrAt w' base b (l ++ ns.flatMap numL) v' ∧ Wrote w w' b v v' := by
  have HG := Lib.hid hG
  have HS := Lib.hid hS
  have HW0 := Lib.hid h
  have HLEN := Lib.hid hlen
  have HOK := Lib.hid hok
  have hsl : ns.length ≤ 140737488355328 := by have := flat_len ns; rw [List.length_append] at hlen; omega
  clear h hG hS hlen hok
  go_enter Tryz.func70, Tryz.ntmps70
  go_wp2
  go_loopg [5, 8] ns.length (fun gg s5 s8 wr => ∃ (i : Nat) (v' : Value), i ≤ ns.length ∧ ns.length - i ≤ gg ∧ s8 = .int .i64 i ∧ Hid (WrAt wr base b (l ++ (ns.take i).flatMap numL) v') ∧ Hid (Wrote w wr b v v'))
  case atStart => exact ⟨0, v, Nat.zero_le _, by omega, rfl, (show Hid _ from by show WrAt _ _ _ _ _; simpa using HW0.out), Wrote.refl _ _ _⟩
  case round =>
    obtain ⟨i, v', hin, hgg, rfl, HW, HR⟩ := hrel
    have GW : Hid (Glob wr) := HG.out.under hb9 (HR.out.below HW0.out)
    by_cases hlti : i < ns.length
    · obtain ⟨n, hn⟩ : ∃ s, ns[i]? = some s := ⟨_, List.getElem?_eq_getElem hlti⟩
      obtain ⟨G, o, rfl, hc0, hne, hv⟩ := HS.out i n hn
      have hc : wr.cell? ⟨G, o + i, none⟩ = some (.int .i64 n) := HR.out.cell hc0 hne hv
      have HTK : Hid ((ns.take (i + 1)).flatMap numL = (ns.take i).flatMap numL ++ [Lib.itoa n].flatMap fieldL) := by show _ = _; rw [List.take_add_one, hn]; simp [numL]
      have HLN : Hid ((l ++ (ns.take i).flatMap numL ++ [Lib.itoa n].flatMap fieldL).length ≤ 140737488355328) := by
        show _ ≤ _
        have h1 := HLEN.out
        have h2 : ns.flatMap numL = (ns.take i).flatMap numL ++ (numL n ++ (ns.drop (i + 1)).flatMap numL) := by
          conv => lhs; rw [← List.take_append_drop i ns, drop_at hn, List.flatMap_append, List.flatMap_cons]
        rw [h2] at h1
        simp only [List.length_append, List.flatMap_cons, List.flatMap_nil, List.append_nil, numL] at h1 ⊢
        omega
      obtain ⟨I, hI⟩ : ∃ I, Hid (Lib.itoa n = I) := ⟨_, rfl⟩
      have HN : IntOK n := HOK.out n (List.mem_of_getElem? hn)
      have HIt : Hid (∀ W, Glob W → Calls Tryz.prog 58 #[.int .i64 n] W fun e w' => e = .returned (.string ⟨I.toArray⟩) ∧ Below W.heap.size W w') := fun W hg => by rw [← hI.out]; exact itoa_any _ HN W hg
      rw [hI.out] at HTK HLN
      have hlz : (i : Int) < (ns.length : Int) := by omega
      have HN1 := Lib.hid hn
      clear hn hc0 hne hv HN
      go_wp2_with fail
      refine (HIt.out _ GW.out).mono ?_
      rintro e w2 ⟨rfl, hb2⟩
      have W2 := Lib.hid (HW.out.later hb2)
      have R2 := Lib.hid (HR.out.later hb2)
      have G2 := Lib.hid (GW.out.later hb2)
      clear hb2
      go_wp2_with fail
      have hba : Below w2.heap.size w2 (w2.alloc (.cells #[.string ⟨I.toArray⟩] 9)) := below_alloc (Below.refl _ _) (Nat.le_refl _) _
      have hw3 := W2.out.later hba
      refine (wtext_any base b _ v' _ hw3 (G2.out.later hba) hb9 [I] w2.heap.size (fun j s hj => ?_) (by have := W2.out.lt; omega) (fun e => by have := (W2.out.own.lt _ e).2; omega) (by simp) HLN.out).mono ?_
      · obtain rfl : j = 0 := by have := (List.getElem?_eq_some_iff.1 hj).1; simpa using this
        simp only [List.getElem?_cons_zero, Option.some.injEq] at hj
        subst hj
        exact cell_new _ _ _ _ _ _ rfl rfl
      rintro e w4 ⟨rfl, v4, hw4, hr4⟩
      have W4 : Hid (WrAt w4 base b (l ++ (ns.take (i + 1)).flatMap numL) v4) := by
        show WrAt _ _ _ _ _
        rw [HTK.out, ← List.append_assoc]; exact hw4
      have R4 := Lib.hid ((R2.out.later hba).trans hr4)
      clear hw4 hr4 hw3 hba
      go_wp2
      go_roundg (ns.length - (i + 1))
      case measure => omega
      case rel => exact ⟨i + 1, v4, by omega, Nat.le_refl _, by go_num, W4, R4⟩
    · obtain rfl : i = ns.length := by omega
      rw [List.take_of_length_le (Nat.le_refl _)] at HW
      go_wp2
      go_end0
      exact ⟨rfl, v', HW.out, HR.out⟩

theorem bits_num (b : Bool) : (if b then (1 : Int) else 0) = 1 ∨ (if b then (1 : Int) else 0) = 0 := by cases b <;> simp

set_option maxHeartbeats 2000000 in
set_option maxRecDepth 100000 in
theorem wflag_any (base b : Nat) (l : List UInt8) (v : Value) (w : World) (h : WrAt w base b l v) (hG : Glob w) (hb9 : 9 ≤ b) (bs : List Bool) (G : Nat)
    (hS : ∀ i x, bs[i]? = some x → w.cell? ⟨G, i, none⟩ = some (.bool x)) (hne : G ≠ b) (hv : v.ownBlock ≠ some G)
    (hlen : (l ++ (bs.map fun x => if x then (1 : Int) else 0).flatMap numL).length ≤ 140737488355328) :
    Calls Tryz.prog 71 #[.pointer (some ⟨b, 0, none⟩), .slice (some ⟨G, 0, none⟩) bs.length bs.length] w fun e w' => e = .returned (.tuple #[]) ∧ ∃ v', WrAt w' base b (l ++ (bs.map fun x => if x then (1 : Int) else 0).flatMap numL) v' ∧ Wrote w w' b v v' := by
  have HG := Lib.hid hG
  have HS := Lib.hid hS
  have HW0 := Lib.hid h
  have HLEN := Lib.hid hlen
  have HNE := Lib.hid hne
  have HV := Lib.hid hv
  have hsl : bs.length ≤ 140737488355328 := by have := flat_len (bs.map fun x => if x then (1 : Int) else 0); rw [List.length_append] at hlen; rw [List.length_map] at this; omega
  obtain ⟨ns, hns⟩ : ∃ ns, Hid ((bs.map fun x => if x then (1 : Int) else 0) = ns) := ⟨_, rfl⟩
  rw [hns.out] at HLEN ⊢
  clear h hG hS hlen hne hv
  go_enter Tryz.func71, Tryz.ntmps71
  go_wp2
  go_loopg [5, 8] bs.length (fun gg s5 s8 wr => ∃ (i : Nat) (v' : Value), i ≤ bs.length ∧ bs.length - i ≤ gg ∧ s8 = .int .i64 i ∧ Hid (WrAt wr base b (l ++ (ns.take i).flatMap numL) v') ∧ Hid (Wrote w wr b v v'))
  case atStart => exact ⟨0, v, Nat.zero_le _, by omega, rfl, (show Hid _ from by show WrAt _ _ _ _ _; simpa using HW0.out), Wrote.refl _ _ _⟩
  case round =>
    obtain ⟨i, v', hin, hgg, rfl, HW, HR⟩ := hrel
    have GW : Hid (Glob wr) := HG.out.under hb9 (HR.out.below HW0.out)
    have hnl : Hid (ns.length = bs.length) := by show _ = _; rw [← hns.out, List.length_map]
    by_cases hlti : i < bs.length
    · obtain ⟨x, hx⟩ : ∃ s, bs[i]? = some s := ⟨_, List.getElem?_eq_getElem hlti⟩
      have hc : wr.cell? ⟨G, i, none⟩ = some (.bool x) := HR.out.cell (HS.out i x hx) HNE.out HV.out
      have hn : ns[i]? = some (if x then (1 : Int) else 0) := by rw [← hns.out, List.getElem?_map, hx]; rfl
      have HTK : Hid ((ns.take (i + 1)).flatMap numL = (ns.take i).flatMap numL ++ [if x then (1 : Int) else 0].flatMap numL) := by show _ = _; rw [List.take_add_one, hn]; simp
      have HLN : Hid ((l ++ (ns.take i).flatMap numL ++ [if x then (1 : Int) else 0].flatMap numL).length ≤ 140737488355328) := by
        show _ ≤ _
        have h1 := HLEN.out
        have h2 : ns.flatMap numL = (ns.take i).flatMap numL ++ (numL (if x then (1 : Int) else 0) ++ (ns.drop (i + 1)).flatMap numL) := by
          conv => lhs; rw [← List.take_append_drop i ns, drop_at hn, List.flatMap_append, List.flatMap_cons]
        rw [h2] at h1
        simp only [List.length_append, List.flatMap_cons, List.flatMap_nil, List.append_nil] at h1 ⊢
        omega
      have hlz : (i : Int) < (bs.length : Int) := by omega
      clear hn hx
      cases x
      all_goals
        simp only [if_true, if_false, Bool.false_eq_true] at HTK HLN
        go_wp2_with fail
        have hba : ∀ m : Int, Below wr.heap.size wr (wr.alloc (.cells #[.int .i64 m] 3)) := fun m => below_alloc (Below.refl _ _) (Nat.le_refl _) _
        refine (wnumber_any base b _ v' _ (HW.out.later (hba _)) (GW.out.later (hba _)) hb9 [_] (fun n hn => ?_) (some ⟨wr.heap.size, 0, none⟩) 1 (fun j y hj => ?_) HLN.out).mono ?_
        · simp only [List.mem_singleton] at hn; subst hn; unfold IntOK; omega
        · obtain rfl : j = 0 := by have := (List.getElem?_eq_some_iff.1 hj).1; simpa using this
          simp only [List.getElem?_cons_zero, Option.some.injEq] at hj
          subst hj
          exact ⟨_, 0, rfl, cell_new _ _ _ _ _ _ rfl rfl, by have := HW.out.lt; omega, fun e => by have := (HW.out.own.lt _ e).2; omega⟩
        rintro e w4 ⟨rfl, v4, hw4, hr4⟩
        have W4 : Hid (WrAt w4 base b (l ++ (ns.take (i + 1)).flatMap numL) v4) := by
          show WrAt _ _ _ _ _
          rw [HTK.out, ← List.append_assoc]; exact hw4
        have R4 := Lib.hid ((HR.out.later (hba _)).trans hr4)
        clear hw4 hr4 hba
        go_wp2
        go_roundg (bs.length - (i + 1))
        case measure => omega
        case rel => exact ⟨i + 1, v4, by omega, Nat.le_refl _, by go_num, W4, R4⟩
    · obtain rfl : i = bs.length := by omega
      rw [List.take_of_length_le (by rw [hnl.out]; exact Nat.le_refl _)] at HW
      clear hnl
      go_wp2
      go_end0
      exact ⟨rfl, v', HW.out, HR.out⟩

end Go.Proofs.YtajmkkjlhmeolaaGreatDoor
