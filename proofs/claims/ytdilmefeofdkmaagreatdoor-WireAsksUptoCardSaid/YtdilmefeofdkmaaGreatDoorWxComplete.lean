/-
  WIRE: a request is complete, by the document. (Printed by wip/gen/wxcomplete.py.)
-/
import Derived.Test.YtdilmefeofdkmaaGreatDoorSm22
import Derived.Test.YtdilmefeofdkmaaGreatDoorSm2
namespace Go.Proofs.YtdilmefeofdkmaaGreatDoor
open Go.RowKit

def closesL (minor : Int) (l : List (List UInt8)) : Bool :=
  if minor = 1 then l.any fun v => smallL v == closeL else if minor = 0 then !(l.any fun v => smallL v == aliveL) else false
theorem closesV_eq (minor : Int) (fs : List (List UInt8 × List UInt8)) : closesV minor fs = closesL minor (valuesL connL fs) := rfl
theorem strs_cell {w : World} {base : Nat} {l : List (List UInt8)} {v : Value} (h : StrsAt w base l v) {i : Nat} {t : List UInt8} (hi : l[i]? = some t) : ∃ g c, v = .slice (some ⟨g, 0, none⟩) l.length c ∧ base ≤ g ∧ w.cell? ⟨g, i, none⟩ = some (.string ⟨t.toArray⟩) := by
  have hlt := (List.getElem?_eq_some_iff.1 hi).1
  obtain ⟨g, c, hv, hb, hg⟩ := h.form (by omega)
  have k1 := h.cells (g := g) (by rw [hv]; rfl) i (.string ⟨t.toArray⟩) (by simp [strCs, hi])
  rw [Addr.add_lit, Nat.zero_add] at k1
  exact ⟨g, c, hv, hb, k1⟩
theorem valuesL_mem {name t : List UInt8} {fs : List (List UInt8 × List UInt8)} (h : t ∈ valuesL name fs) : ∃ f ∈ fs, f.2 = t := by
  unfold valuesL at h
  obtain ⟨f, hf, rfl⟩ := List.mem_map.1 h
  exact ⟨f, (List.mem_filter.1 hf).1, rfl⟩

theorem rowB_keptX {w w' : World} {base : Nat} {e : TypeId} {sz : Nat} {v : Value} {n : Nat} {xs : List Value} (h : w.ownsRow base e sz v n xs) (hk : ∀ g, v.ownBlock = some g → g < w.heap.size → w'.heap[g]? = w.heap[g]?) : w'.ownsRow base e sz v n xs := by
  refine ⟨h.1, ?_⟩
  rcases h.2 with h1 | ⟨g, cap, cur, hv, hg, hh, r⟩
  · exact .inl h1
  · exact .inr ⟨g, cap, cur, hv, hg, by rw [hk g (by rw [hv]; rfl) (Array.getElem?_eq_some_iff.1 hh).1]; exact hh, r⟩

set_option maxHeartbeats 4000000 in
set_option maxRecDepth 100000 in
theorem rComplete_any {w : World} {rd : Nat} {ms : Nat → Prop} {s : QS} {out : List ReqV} (h : RefAt w rd ms s out) (hmi : s.minor = 0 ∨ s.minor = 1) (hl : s.fields.length ≤ 1000000) (ho : out.length ≤ 1000000000) (hsh : ∀ f ∈ s.fields, f.2.length ≤ 140737488351232) :
    Calls Tryz.prog 56 #[.pointer (some ⟨rd, 0, none⟩)] w fun x w' => x = .returned (.tuple #[]) ∧ RfPost w rd ms s.complete.1 (out ++ s.complete.2) w' := by
  obtain ⟨i0, hi, hz0, hz1, hz2⟩ : ∃ i, Tryz.prog.info? 31 = some i ∧ i.zero = some (.agg #[.string ⟨#[]⟩, .string ⟨#[]⟩, .int .i64 0, .slice none 0 0, .string ⟨#[]⟩, .bool false]) ∧ i.size = 6 ∧ i.bytes = 88 :=
    info_parts (show (Tryz.prog.info? 31).map (fun i => (i.zero, i.size, i.bytes)) = some (some (.agg #[.string ⟨#[]⟩, .string ⟨#[]⟩, .int .i64 0, .slice none 0 0, .string ⟨#[]⟩, .bool false]), 6, 88) by kernel_rfl)
  obtain ⟨vo, vl, vf, vb, hI⟩ := h
  obtain ⟨ao, co, rfl⟩ : ∃ a c, vo = .slice a out.length c := by
    obtain ⟨xs, ok, h1, _⟩ := hI.outs
    exact row_form h1
  obtain ⟨af, cf, rfl⟩ := row_form hI.flds
  obtain ⟨ab, cb, rfl⟩ := row_form hI.body
  have K0 := Lib.hid hI
  have hlt := hI.lt
  have r7 : w.cell? ⟨rd, 7, none⟩ = some (.string ⟨s.meth.toArray⟩) := cell_of_heap hI.box
  have r8 : w.cell? ⟨rd, 8, none⟩ = some (.string ⟨s.tgt.toArray⟩) := cell_of_heap hI.box
  have r9 : w.cell? ⟨rd, 9, none⟩ = some (.int .i64 s.minor) := cell_of_heap hI.box
  have r10 : w.cell? ⟨rd, 10, none⟩ = some (Value.slice af s.fields.length cf) := cell_of_heap hI.box
  have r11 : w.cell? ⟨rd, 11, none⟩ = some (.string ⟨#[]⟩) := cell_of_heap hI.box
  have r12 : w.cell? ⟨rd, 12, none⟩ = some (.bool false) := cell_of_heap hI.box
  have r5 : w.cell? ⟨rd, 5, none⟩ = some (Value.slice ab s.body.length cb) := cell_of_heap hI.box
  have hcv := conv_row (hI.body.alloc (.cells #[.string ⟨s.meth.toArray⟩, .string ⟨s.tgt.toArray⟩, .int .i64 s.minor, (Value.slice af s.fields.length cf), .string ⟨#[]⟩, .bool false] 31))
  obtain ⟨w1, hw1⟩ : ∃ w1, w.alloc (.cells #[.string ⟨s.meth.toArray⟩, .string ⟨s.tgt.toArray⟩, .int .i64 s.minor, (Value.slice af s.fields.length cf), .string ⟨s.body.toArray⟩, .bool (s.minor == 0)] 31) = w1 := ⟨_, rfl⟩
  have hb1 : Below w.heap.size w w1 := by
    rw [← hw1]
    exact below_alloc (Below.refl _ _) (Nat.le_refl _) _
  have hx1 : w1.heap[w.heap.size]? = some (.cells #[.string ⟨s.meth.toArray⟩, .string ⟨s.tgt.toArray⟩, .int .i64 s.minor, (Value.slice af s.fields.length cf), .string ⟨s.body.toArray⟩, .bool (s.minor == 0)] 31 (0, 0)) := by
    rw [← hw1]; exact heap_alloc_new _ _
  have hsz1 : w1.heap.size = w.heap.size + 1 := by rw [← hw1]; simp
  have K1 := Lib.hid (hI.later hb1)
  have HALL := Lib.hid (rAll_any rd (Value.slice af s.fields.length cf) s.fields connL w1 (cell_later hb1 r10) K1.out.flds hl)
  have B1 := Lib.hid hb1
  have X1 := Lib.hid hx1
  have SZ1 := Lib.hid hsz1
  have HVL : Hid ((valuesL connL s.fields).length ≤ 1000000) := Nat.le_trans (valuesL_len _ _) hl
  have HSM : Hid (∀ t ∈ valuesL connL s.fields, ∀ W, Calls Tryz.prog 47 #[.string ⟨t.toArray⟩] W fun e w' => e = .returned (.string ⟨(smallL t).toArray⟩) ∧ Below W.heap.size W w') := fun t ht W => by
    obtain ⟨f, hf, rfl⟩ := valuesL_mem ht
    exact rSmall_any f.2 (hsh f hf) W
  obtain ⟨cl, hcl⟩ : ∃ x, closesV s.minor s.fields = x := ⟨_, rfl⟩
  have HCL : Hid (s.complete = ({ s.anew with done := cl }, [⟨s.meth, s.tgt, s.minor, s.fields, s.body, cl⟩])) := by show _ = _; unfold QS.complete; rw [hcl]
  rw [HCL.out]
  rw [closesV_eq] at hcl
  have HCL := Lib.hid hcl
  generalize valuesL connL s.fields = L at *
  clear hI hb1 hx1 hsh hsz1 hcl
  go_enter Tryz.func56, Tryz.ntmps56
  go_wp2_with fail
  refine HALL.out.mono ?_
  rintro e w2 ⟨v, rfl, hS, hb2⟩
  obtain ⟨aL, cL, rfl⟩ : ∃ a c, v = .slice a L.length c := by
    rcases hS.2 with ⟨h1, h2⟩ | ⟨g, cap, cur, h1, _⟩
    · rw [h1, h2]; exact ⟨_, _, rfl⟩
    · exact ⟨_, _, h1⟩
  have SL := Lib.hid hS
  have X2 : Hid (w2.heap[w.heap.size]? = some (.cells #[.string ⟨s.meth.toArray⟩, .string ⟨s.tgt.toArray⟩, .int .i64 s.minor, (Value.slice af s.fields.length cf), .string ⟨s.body.toArray⟩, .bool (s.minor == 0)] 31 (0, 0))) := (hb2.block _ (Array.getElem?_eq_some_iff.1 X1.out).1).trans X1.out
  have B2 := Lib.hid (B1.out.trans (hb2.mono B1.out.size))
  have hvl := HVL.out
  clear hb2 hS hcv r5 r7 r8 r9 r10 r11 r12 hw1
  go_wp2
  go_loopg [4, 5] L.length (fun gg s4 _ wr => ∃ i : Nat, i ≤ L.length ∧ L.length - i ≤ gg ∧ s4 = .int .i64 i ∧ Hid (wr.heap[w.heap.size]? = some (.cells #[.string ⟨s.meth.toArray⟩, .string ⟨s.tgt.toArray⟩, .int .i64 s.minor, (Value.slice af s.fields.length cf), .string ⟨s.body.toArray⟩, .bool (closesL s.minor (L.take i))] 31 (0, 0))) ∧ Hid (Below w.heap.size w wr) ∧ Hid (StrsAt wr w1.heap.size L (.slice aL L.length cL)))
  case atStart =>
    refine ⟨0, Nat.zero_le _, by omega, rfl, (show Hid _ from ?_), B2, SL⟩
    show _ = _
    rw [X2.out]
    rcases hmi with h | h <;> rw [h] <;> rfl
  case round =>
    obtain ⟨i, hin, hg, rfl, XR, BR, SR⟩ := hrel
    by_cases hlt2 : i < L.length
    · have hltz : (i : Int) < (L.length : Int) := by omega
      obtain ⟨t, hit⟩ : ∃ t, L[i]? = some t := ⟨_, List.getElem?_eq_getElem hlt2⟩
      obtain ⟨g, c', hv, hbg, k0⟩ := strs_cell SR.out hit
      injection hv with e1 _ e3
      subst e1 e3
      have HS1 := Lib.hid (HSM.out t (List.mem_of_getElem? hit) wr)
      have HTK : Hid (L.take (i + 1) = L.take i ++ [t]) := by show _ = _; rw [List.take_add_one, hit]; rfl
      have HGB : Hid (g ≠ w.heap.size) := by have := SZ1.out; show g ≠ _; omega
      clear hit hbg
      go_wp2_with fail
      refine HS1.out.mono ?_
      rintro e w4 ⟨rfl, hb4⟩
      have x4 := (hb4.block _ (Array.getElem?_eq_some_iff.1 XR.out).1).trans XR.out
      have X4 := Lib.hid x4
      have B4 := Lib.hid (BR.out.trans (hb4.mono BR.out.size))
      have S4 : Hid (StrsAt w4 w1.heap.size L (.slice (some ⟨g, 0, none⟩) L.length cL)) := rowB_keptX SR.out fun k _ hl => hb4.block k hl
      have c2 : w4.cell? ⟨w.heap.size, 2, none⟩ = some (.int .i64 s.minor) := cell_of_heap x4
      have c5 : w4.cell? ⟨w.heap.size, 5, none⟩ = some (.bool (closesL s.minor (L.take i))) := cell_of_heap x4
      have f5 : w4.frozen? ⟨w.heap.size, 5, none⟩ = false := free_of_heap x4
      have SS : ∀ x, Hid (StrsAt (w4.setCell ⟨w.heap.size, 5, none⟩ x) w1.heap.size L (.slice (some ⟨g, 0, none⟩) L.length cL)) := fun x => rowB_keptX S4.out fun k hk _ => Below.heap_setCell _ _ _ _ (by injection hk with hk; rw [← hk]; exact HGB.out)
      have XS : ∀ x, (w4.setCell ⟨w.heap.size, 5, none⟩ (.bool x)).heap[w.heap.size]? = some (.cells #[.string ⟨s.meth.toArray⟩, .string ⟨s.tgt.toArray⟩, .int .i64 s.minor, (Value.slice af s.fields.length cf), .string ⟨s.body.toArray⟩, .bool x] 31 (0, 0)) := fun x => by rw [heap_set X4.out]; rfl
      have SSH := Lib.hid SS
      have XSH := Lib.hid XS
      clear x4 hb4 SS XS k0
      rcases hmi with hm | hm
      · rw [hm] at c2
        have HCI : Hid (closesL s.minor (L.take (i + 1)) = (closesL s.minor (L.take i) && !(smallL t == aliveL))) := by
          show _ = _
          rw [HTK.out]; unfold closesL; rw [hm]; simp
        obtain ⟨b, hb⟩ : ∃ b, (smallL t == aliveL) = b := ⟨_, rfl⟩
        rw [hb] at HCI
        have hb2 : (smallL t == [107, 101, 101, 112, 45, 97, 108, 105, 118, 101]) = b := hb
        generalize smallL t = sm at *
        have HM := Lib.hid hm
        clear hb hm
        cases b
        · have hsx : ¬ sm = [107, 101, 101, 112, 45, 97, 108, 105, 118, 101] := by rw [beq_eq_false_iff_ne] at hb2; exact hb2
          rw [Bool.not_false, Bool.and_true] at HCI
          go_wp2_with fail
          go_roundg (L.length - (i + 1))
          case measure => omega
          case rel => exact ⟨i + 1, by omega, by omega, by go_num, by rw [HCI.out]; exact X4, B4, S4⟩
        · have hsx : sm = [107, 101, 101, 112, 45, 97, 108, 105, 118, 101] := beq_iff_eq.1 hb2
          rw [Bool.not_true, Bool.and_false] at HCI
          go_wp2_with fail
          go_roundg (L.length - (i + 1))
          case measure => omega
          case rel => exact ⟨i + 1, by omega, by omega, by go_num, by rw [HCI.out]; exact XSH.out _, B4.out.setCell (by simp) _, SSH.out _⟩
      · rw [hm] at c2
        have HCI : Hid (closesL s.minor (L.take (i + 1)) = (closesL s.minor (L.take i) || (smallL t == closeL))) := by
          show _ = _
          rw [HTK.out]; unfold closesL; rw [hm]; simp
        obtain ⟨b, hb⟩ : ∃ b, (smallL t == closeL) = b := ⟨_, rfl⟩
        rw [hb] at HCI
        have hb2 : (smallL t == [99, 108, 111, 115, 101]) = b := hb
        generalize smallL t = sm at *
        have HM := Lib.hid hm
        clear hb hm
        cases b
        · have hsx : ¬ sm = [99, 108, 111, 115, 101] := by rw [beq_eq_false_iff_ne] at hb2; exact hb2
          rw [Bool.or_false] at HCI
          go_wp2_with fail
          go_roundg (L.length - (i + 1))
          case measure => omega
          case rel => exact ⟨i + 1, by omega, by omega, by go_num, by rw [HCI.out]; exact X4, B4, S4⟩
        · have hsx : sm = [99, 108, 111, 115, 101] := beq_iff_eq.1 hb2
          rw [Bool.or_true] at HCI
          have c2' : (w4.setCell ⟨w.heap.size, 5, none⟩ (.bool true)).cell? ⟨w.heap.size, 2, none⟩ = some (.int .i64 1) := cell_of_heap (XSH.out true) |>.trans (by simp [HM.out])
          go_wp2_with fail
          go_roundg (L.length - (i + 1))
          case measure => omega
          case rel => exact ⟨i + 1, by omega, by omega, by go_num, by rw [HCI.out]; exact XSH.out _, B4.out.setCell (by simp) _, SSH.out _⟩
    · have he : i = L.length := by omega
      subst he
      have x3 := XR.out
      rw [List.take_length, HCL.out] at x3
      have X3 := Lib.hid x3
      have K3 := Lib.hid (K0.out.later BR.out)
      have M3 := Lib.hid (Xv.of_below (m := ms) BR.out)
      clear x3 XR SR BR HALL HSM K1 X1 B1 SZ1 X2 B2 SL
      go_upto_region 12 with (fail)
      generalize wr = w3 at X3 K3 M3 ⊢
      refine wp_region_held_drew (S := (fun W : World => W.heap[w.heap.size]? = some (.cells #[.string ⟨s.meth.toArray⟩, .string ⟨s.tgt.toArray⟩, .int .i64 s.minor, (Value.slice af s.fields.length cf), .string ⟨s.body.toArray⟩, .bool cl] 31 (0, 0)))) (by kernel_rfl) X3.out (fun hS0 => ?_)
      have K3 := Lib.hid (K3.out.later (Below.drew (Below.refl _ _)))
      have M3 := Lib.hid (M3.out.later (Below.drew (Below.refl _ _)))
      clear X3
      generalize w3.drew = w3 at K3 M3 hS0 ⊢
      refine wpAnyH_take (i := 0) (oi := { dst := some 49, op := _, type := _, pos := _, after := _, guard := _ }) (v := ?_) rfl (by kernel_rfl) (by kernel_rfl) (by kernel_rfl) (fun _ _ _ h => h) (Or.inl ⟨by kernel_rfl, ?_⟩) (by assumption) ?_
      rotate_left
      · (intro w hSw; (try dsimp only at hSw); go_simp); all_goals (with_reducible rfl)
      try simp only [Act.put, List.setIfInBounds_toArray, List.set_cons_zero, List.set_cons_succ]
      refine wpAnyH_take (i := 1) (oi := { dst := some 50, op := _, type := _, pos := _, after := _, guard := _ }) (v := ?_) rfl (by kernel_rfl) (by kernel_rfl) (by kernel_rfl) (fun _ _ _ h => h) (Or.inl ⟨by kernel_rfl, ?_⟩) (by assumption) ?_
      rotate_left
      · (intro w hSw; (try dsimp only at hSw); go_simp); all_goals (with_reducible rfl)
      try simp only [Act.put, List.setIfInBounds_toArray, List.set_cons_zero, List.set_cons_succ]
      refine wpAnyH_take (i := 2) (oi := { dst := some 51, op := _, type := _, pos := _, after := _, guard := _ }) (v := ?_) rfl (by kernel_rfl) (by kernel_rfl) (by kernel_rfl) (fun _ _ _ h => h) (Or.inl ⟨by kernel_rfl, ?_⟩) (by assumption) ?_
      rotate_left
      · (intro w hSw; (try dsimp only at hSw); go_simp); all_goals (with_reducible rfl)
      try simp only [Act.put, List.setIfInBounds_toArray, List.set_cons_zero, List.set_cons_succ]
      refine wpAnyH_take (i := 3) (oi := { dst := some 52, op := _, type := _, pos := _, after := _, guard := _ }) (v := ?_) rfl (by kernel_rfl) (by kernel_rfl) (by kernel_rfl) (fun _ _ _ h => h) (Or.inl ⟨by kernel_rfl, ?_⟩) (by assumption) ?_
      rotate_left
      · (intro w hSw; (try dsimp only at hSw); go_simp); all_goals (with_reducible rfl)
      try simp only [Act.put, List.setIfInBounds_toArray, List.set_cons_zero, List.set_cons_succ]
      refine wpAnyH_take (i := 5) (oi := { dst := some 54, op := _, type := _, pos := _, after := _, guard := _ }) (v := ?_) rfl (by kernel_rfl) (by kernel_rfl) (by kernel_rfl) (fun _ _ _ h => h) (Or.inl ⟨by kernel_rfl, ?_⟩) (by assumption) ?_
      rotate_left
      · (intro w hSw; (try dsimp only at hSw); (have h2 := hSw); (have k0 := cell_of_heap (x := 0) h2); (have k1 := cell_of_heap (x := 1) h2); (have k2 := cell_of_heap (x := 2) h2); (have k3 := cell_of_heap (x := 3) h2); (have k4 := cell_of_heap (x := 4) h2); (have k5 := cell_of_heap (x := 5) h2); go_simp); all_goals (with_reducible rfl)
      try simp only [Act.put, List.setIfInBounds_toArray, List.set_cons_zero, List.set_cons_succ]
      refine wpAnyH_ready (rs := [4, 6]) (by kernel_rfl) (by simp) ?_
      refine (AllReadyH.cons (o := { dst := some 53, op := _, type := _, pos := _, after := _, guard := _ }) rfl (fun K hK => ?_) (AllReadyH.cons (o := { dst := some 55, op := _, type := _, pos := _, after := _, guard := _ }) rfl (fun K hK => ?_) AllReadyH.nil))
      · rw [if_pos (by kernel_rfl)]
        have c3 : w3.cell? ⟨rd, 15, none⟩ = some (Value.slice ao out.length co) := cell_of_heap K3.out.box
        go_wp2_with fail
        clear c3
        refine hK.out _ _ (by assumption) (fun _ => ?_)
        clear hK K
        try simp only [Act.put, List.setIfInBounds_toArray, List.set_cons_zero, List.set_cons_succ]
        refine wpAnyH_ready (rs := [6]) (by kernel_rfl) (by simp) ?_
        refine (AllReadyH.cons (o := { dst := some 55, op := _, type := _, pos := _, after := _, guard := _ }) rfl (fun K hK => ?_) AllReadyH.nil)
        rw [if_pos (by kernel_rfl)]
        have hSz : (fun W : World => W.heap[w.heap.size]? = some (.cells #[.string ⟨s.meth.toArray⟩, .string ⟨s.tgt.toArray⟩, .int .i64 s.minor, (Value.slice af s.fields.length cf), .string ⟨s.body.toArray⟩, .bool cl] 31 (0, 0))) w3 := by assumption
        go_wp2_with fail
        have hSx : (fun W : World => W.heap[w.heap.size]? = some (.cells #[.string ⟨s.meth.toArray⟩, .string ⟨s.tgt.toArray⟩, .int .i64 s.minor, (Value.slice af s.fields.length cf), .string ⟨s.body.toArray⟩, .bool cl] 31 (0, 0))) (w3.alloc (.cells #[.string ⟨s.meth.toArray⟩, .string ⟨s.tgt.toArray⟩, .int .i64 s.minor, (Value.slice af s.fields.length cf), .string ⟨s.body.toArray⟩, .bool cl] 31)) := (Below.heap_alloc _ _ _ (Array.getElem?_eq_some_iff.1 hSz).1).trans hSz
        have K4 := Lib.hid (K3.out.later (below_alloc (Below.refl _ _) (Nat.le_refl _) (.cells #[.string ⟨s.meth.toArray⟩, .string ⟨s.tgt.toArray⟩, .int .i64 s.minor, (Value.slice af s.fields.length cf), .string ⟨s.body.toArray⟩, .bool cl] 31)))
        have M4 := Lib.hid (M3.out.later (below_alloc (Below.refl _ _) (Nat.le_refl _) (.cells #[.string ⟨s.meth.toArray⟩, .string ⟨s.tgt.toArray⟩, .int .i64 s.minor, (Value.slice af s.fields.length cf), .string ⟨s.body.toArray⟩, .bool cl] 31)))
        have L4 : Hid ((w3.alloc (.cells #[.string ⟨s.meth.toArray⟩, .string ⟨s.tgt.toArray⟩, .int .i64 s.minor, (Value.slice af s.fields.length cf), .string ⟨s.body.toArray⟩, .bool cl] 31)).heap[w3.heap.size]? = some (.cells #[.string ⟨s.meth.toArray⟩, .string ⟨s.tgt.toArray⟩, .int .i64 s.minor, (Value.slice af s.fields.length cf), .string ⟨s.body.toArray⟩, .bool cl] 31 (0, 0))) := heap_alloc_new w3 _
        refine hK.out _ (w3.alloc (.cells #[.string ⟨s.meth.toArray⟩, .string ⟨s.tgt.toArray⟩, .int .i64 s.minor, (Value.slice af s.fields.length cf), .string ⟨s.body.toArray⟩, .bool cl] 31)) hSx (fun hSy => ?_)
        clear hSx hSz
        generalize w3.alloc (.cells #[.string ⟨s.meth.toArray⟩, .string ⟨s.tgt.toArray⟩, .int .i64 s.minor, (Value.slice af s.fields.length cf), .string ⟨s.body.toArray⟩, .bool cl] 31) = w4 at K4 M4 L4 hSy ⊢
        generalize w3.heap.size = gl at L4 ⊢
        clear K3 M3
        clear hK K
        try simp only [Act.put, List.setIfInBounds_toArray, List.set_cons_zero, List.set_cons_succ]
        refine wpAnyH_ready (rs := [7]) (by kernel_rfl) (by simp) ?_
        refine (AllReadyH.cons (o := { dst := some 56, op := _, type := _, pos := _, after := _, guard := _ }) rfl (fun K hK => ?_) AllReadyH.nil)
        rw [if_pos (by kernel_rfl)]
        have hSz : (fun W : World => W.heap[w.heap.size]? = some (.cells #[.string ⟨s.meth.toArray⟩, .string ⟨s.tgt.toArray⟩, .int .i64 s.minor, (Value.slice af s.fields.length cf), .string ⟨s.body.toArray⟩, .bool cl] 31 (0, 0))) w4 := by assumption
        obtain ⟨xs, ok, h1, h2, h3⟩ := K4.out.outs
        refine wp_append_lies _ _ _ _ (by rfl) 0 31 i0 _ 6 88 Tryz.underlying24 hi hz0 hz1 hz2 rfl (by decide) (Value.slice ao out.length co) out.length xs (by rfl) h1 ⟨gl, 0, none⟩ 1 1 (#[.string ⟨s.meth.toArray⟩, .string ⟨s.tgt.toArray⟩, .int .i64 s.minor, (Value.slice af s.fields.length cf), .string ⟨s.body.toArray⟩, .bool cl]).toList (by rfl) (by rfl) (fun j u hj => by rw [Addr.add_lit, cell_of_heap L4.out]; simpa using hj) (by simp [Value.oneCell']) (by decide) (by simp only [maxLen]; omega) (by omega) (Nat.zero_le _) _ rfl ?_
        intro g cap w5 hown hgr hat hlt2
        have hbx := K4.out.past K4.out.oO hgr
        have hP := K4.out.pushOut (body := s.body) (cl := cl) h2 h3 hown rfl hgr hat hlt2
        have HP := Lib.hid hP.1
        have HM := Lib.hid (M4.out.trans hP.2)
        have hne : (Value.slice ao out.length co).ownBlock ≠ some w.heap.size := fun e => by have := (K0.out.low _ (K0.out.oO _ e).1).2; omega
        have hSx : (fun W : World => W.heap[w.heap.size]? = some (.cells #[.string ⟨s.meth.toArray⟩, .string ⟨s.tgt.toArray⟩, .int .i64 s.minor, (Value.slice af s.fields.length cf), .string ⟨s.body.toArray⟩, .bool cl] 31 (0, 0))) w5 := (hgr.block _ (Array.getElem?_eq_some_iff.1 hSz).1 (fun e => hne e.symm)).trans hSz
        have hgs : g ≠ w.heap.size := by
          have h5 := (Array.getElem?_eq_some_iff.1 hSz).1
          rcases hat with e | e
          · have := (K0.out.low _ (K0.out.oO _ e).1).2; omega
          · omega
        clear hP hown hgr hat h1 h2 h3 hne hSz
        refine hK.out _ w5 hSx (fun hSy5 => ?_)
        clear hSx
        clear hK K
        try simp only [Act.put, List.setIfInBounds_toArray, List.set_cons_zero, List.set_cons_succ]
        refine wpAnyH_take (i := 8) (oi := { dst := some 57, op := _, type := _, pos := _, after := _, guard := _ }) (v := ?_) rfl (by kernel_rfl) (by kernel_rfl) (by kernel_rfl) (fun _ _ _ h => h) (Or.inl ⟨by kernel_rfl, ?_⟩) (by assumption) ?_
        rotate_left
        · (intro w hSw; (try dsimp only at hSw); go_simp); all_goals (with_reducible rfl)
        try simp only [Act.put, List.setIfInBounds_toArray, List.set_cons_zero, List.set_cons_succ]
        refine wpAnyH_take (i := 9) (oi := { dst := some 58, op := _, type := _, pos := _, after := _, guard := _ }) (v := ?_) rfl (by kernel_rfl) (by kernel_rfl) (by kernel_rfl) (fun _ _ _ h => h) (Or.inl ⟨by kernel_rfl, ?_⟩) (by assumption) ?_
        rotate_left
        · (intro w hSw; (try dsimp only at hSw); go_simp); all_goals (with_reducible rfl)
        try simp only [Act.put, List.setIfInBounds_toArray, List.set_cons_zero, List.set_cons_succ]
        refine wpAnyH_ready (rs := [10]) (by kernel_rfl) (by simp) ?_
        refine (AllReadyH.cons (o := { dst := none, op := _, type := _, pos := _, after := _, guard := _ }) rfl (fun K hK => ?_) AllReadyH.nil)
        rw [if_pos (by kernel_rfl)]
        have q33 : w5.cell? ⟨rd, 15, none⟩ = some (Value.slice ao out.length co) := cell_of_heap hbx
        have f33 : w5.frozen? ⟨rd, 15, none⟩ = false := free_of_heap hbx
        go_wp2_with fail
        have hSx : (fun W : World => W.heap[w.heap.size]? = some (.cells #[.string ⟨s.meth.toArray⟩, .string ⟨s.tgt.toArray⟩, .int .i64 s.minor, (Value.slice af s.fields.length cf), .string ⟨s.body.toArray⟩, .bool cl] 31 (0, 0))) (w5.setCell ⟨rd, 15, none⟩ (.slice (some ⟨g, 0, none⟩) (out.length + 1) cap)) := (Below.heap_setCell _ _ _ _ (by simp only; omega)).trans hSy5
        refine hK.out _ _ hSx (fun hS6 => ?_)
        clear hSx
        clear hK K
        try simp only [Act.put]
        refine wpAnyH_done (by kernel_rfl) ?_ _
        have x6 := hS6
        clear q33 f33 hS6 hSy5 hSy hbx
        generalize (w5.setCell ⟨rd, 15, none⟩ (.slice (some ⟨g, 0, none⟩) (out.length + 1) cap)) = w6 at HP HM x6 ⊢
        have hms : ¬ ((ms w.heap.size ∧ ((Value.slice af s.fields.length cf)).ownBlock ≠ some w.heap.size) ∨ w.heap.size = g) := fun hm => by
          rcases hm with hm | hm
          · have := (K0.out.low _ hm.1).2; omega
          · omega
        have X6 := Lib.hid x6
        have HMS := Lib.hid hms
        clear x6 hms hgs
        go_wp2_with fail
        refine (anew_any HP.out).mono ?_
        rintro e w7 ⟨rfl, hI7, m7⟩
        have x7 : w7.heap[w.heap.size]? = some (.cells #[.string ⟨s.meth.toArray⟩, .string ⟨s.tgt.toArray⟩, .int .i64 s.minor, (Value.slice af s.fields.length cf), .string ⟨s.body.toArray⟩, .bool cl] 31 (0, 0)) := (m7.chg.block _ (Array.getElem?_eq_some_iff.1 X6.out).1 HMS.out).trans X6.out
        have y7 : w7.cell? ⟨w.heap.size, 5, none⟩ = some (.bool cl) := cell_of_heap x7
        have q7 : w7.cell? ⟨rd, 14, none⟩ = some (.bool s.done) := cell_of_heap hI7.box
        have f7 : w7.frozen? ⟨rd, 14, none⟩ = false := free_of_heap hI7.box
        have I7 := Lib.hid hI7
        have M7 := Lib.hid m7
        clear hI7 m7 x7
        go_wp2_with fail
        go_end0
        exact ⟨rfl, _, ⟨_, _, _, _, I7.out.set 14 (.bool cl) { s.anew with done := cl } rfl rfl rfl rfl⟩, (HM.out.trans M7.out).trans (I7.out.mvSet 14 _)⟩
      · rw [if_pos (by kernel_rfl)]
        have hSz : (fun W : World => W.heap[w.heap.size]? = some (.cells #[.string ⟨s.meth.toArray⟩, .string ⟨s.tgt.toArray⟩, .int .i64 s.minor, (Value.slice af s.fields.length cf), .string ⟨s.body.toArray⟩, .bool cl] 31 (0, 0))) w3 := by assumption
        go_wp2_with fail
        have hSx : (fun W : World => W.heap[w.heap.size]? = some (.cells #[.string ⟨s.meth.toArray⟩, .string ⟨s.tgt.toArray⟩, .int .i64 s.minor, (Value.slice af s.fields.length cf), .string ⟨s.body.toArray⟩, .bool cl] 31 (0, 0))) (w3.alloc (.cells #[.string ⟨s.meth.toArray⟩, .string ⟨s.tgt.toArray⟩, .int .i64 s.minor, (Value.slice af s.fields.length cf), .string ⟨s.body.toArray⟩, .bool cl] 31)) := (Below.heap_alloc _ _ _ (Array.getElem?_eq_some_iff.1 hSz).1).trans hSz
        have K4 := Lib.hid (K3.out.later (below_alloc (Below.refl _ _) (Nat.le_refl _) (.cells #[.string ⟨s.meth.toArray⟩, .string ⟨s.tgt.toArray⟩, .int .i64 s.minor, (Value.slice af s.fields.length cf), .string ⟨s.body.toArray⟩, .bool cl] 31)))
        have M4 := Lib.hid (M3.out.later (below_alloc (Below.refl _ _) (Nat.le_refl _) (.cells #[.string ⟨s.meth.toArray⟩, .string ⟨s.tgt.toArray⟩, .int .i64 s.minor, (Value.slice af s.fields.length cf), .string ⟨s.body.toArray⟩, .bool cl] 31)))
        have L4 : Hid ((w3.alloc (.cells #[.string ⟨s.meth.toArray⟩, .string ⟨s.tgt.toArray⟩, .int .i64 s.minor, (Value.slice af s.fields.length cf), .string ⟨s.body.toArray⟩, .bool cl] 31)).heap[w3.heap.size]? = some (.cells #[.string ⟨s.meth.toArray⟩, .string ⟨s.tgt.toArray⟩, .int .i64 s.minor, (Value.slice af s.fields.length cf), .string ⟨s.body.toArray⟩, .bool cl] 31 (0, 0))) := heap_alloc_new w3 _
        refine hK.out _ (w3.alloc (.cells #[.string ⟨s.meth.toArray⟩, .string ⟨s.tgt.toArray⟩, .int .i64 s.minor, (Value.slice af s.fields.length cf), .string ⟨s.body.toArray⟩, .bool cl] 31)) hSx (fun hSy => ?_)
        clear hSx hSz
        generalize w3.alloc (.cells #[.string ⟨s.meth.toArray⟩, .string ⟨s.tgt.toArray⟩, .int .i64 s.minor, (Value.slice af s.fields.length cf), .string ⟨s.body.toArray⟩, .bool cl] 31) = w4 at K4 M4 L4 hSy ⊢
        generalize w3.heap.size = gl at L4 ⊢
        clear K3 M3
        clear hK K
        try simp only [Act.put, List.setIfInBounds_toArray, List.set_cons_zero, List.set_cons_succ]
        refine wpAnyH_ready (rs := [4]) (by kernel_rfl) (by simp) ?_
        refine (AllReadyH.cons (o := { dst := some 53, op := _, type := _, pos := _, after := _, guard := _ }) rfl (fun K hK => ?_) AllReadyH.nil)
        rw [if_pos (by kernel_rfl)]
        have c3 : w4.cell? ⟨rd, 15, none⟩ = some (Value.slice ao out.length co) := cell_of_heap K4.out.box
        go_wp2_with fail
        clear c3
        refine hK.out _ _ (by assumption) (fun _ => ?_)
        clear hK K
        try simp only [Act.put, List.setIfInBounds_toArray, List.set_cons_zero, List.set_cons_succ]
        refine wpAnyH_ready (rs := [7]) (by kernel_rfl) (by simp) ?_
        refine (AllReadyH.cons (o := { dst := some 56, op := _, type := _, pos := _, after := _, guard := _ }) rfl (fun K hK => ?_) AllReadyH.nil)
        rw [if_pos (by kernel_rfl)]
        have hSz : (fun W : World => W.heap[w.heap.size]? = some (.cells #[.string ⟨s.meth.toArray⟩, .string ⟨s.tgt.toArray⟩, .int .i64 s.minor, (Value.slice af s.fields.length cf), .string ⟨s.body.toArray⟩, .bool cl] 31 (0, 0))) w4 := by assumption
        obtain ⟨xs, ok, h1, h2, h3⟩ := K4.out.outs
        refine wp_append_lies _ _ _ _ (by rfl) 0 31 i0 _ 6 88 Tryz.underlying24 hi hz0 hz1 hz2 rfl (by decide) (Value.slice ao out.length co) out.length xs (by rfl) h1 ⟨gl, 0, none⟩ 1 1 (#[.string ⟨s.meth.toArray⟩, .string ⟨s.tgt.toArray⟩, .int .i64 s.minor, (Value.slice af s.fields.length cf), .string ⟨s.body.toArray⟩, .bool cl]).toList (by rfl) (by rfl) (fun j u hj => by rw [Addr.add_lit, cell_of_heap L4.out]; simpa using hj) (by simp [Value.oneCell']) (by decide) (by simp only [maxLen]; omega) (by omega) (Nat.zero_le _) _ rfl ?_
        intro g cap w5 hown hgr hat hlt2
        have hbx := K4.out.past K4.out.oO hgr
        have hP := K4.out.pushOut (body := s.body) (cl := cl) h2 h3 hown rfl hgr hat hlt2
        have HP := Lib.hid hP.1
        have HM := Lib.hid (M4.out.trans hP.2)
        have hne : (Value.slice ao out.length co).ownBlock ≠ some w.heap.size := fun e => by have := (K0.out.low _ (K0.out.oO _ e).1).2; omega
        have hSx : (fun W : World => W.heap[w.heap.size]? = some (.cells #[.string ⟨s.meth.toArray⟩, .string ⟨s.tgt.toArray⟩, .int .i64 s.minor, (Value.slice af s.fields.length cf), .string ⟨s.body.toArray⟩, .bool cl] 31 (0, 0))) w5 := (hgr.block _ (Array.getElem?_eq_some_iff.1 hSz).1 (fun e => hne e.symm)).trans hSz
        have hgs : g ≠ w.heap.size := by
          have h5 := (Array.getElem?_eq_some_iff.1 hSz).1
          rcases hat with e | e
          · have := (K0.out.low _ (K0.out.oO _ e).1).2; omega
          · omega
        clear hP hown hgr hat h1 h2 h3 hne hSz
        refine hK.out _ w5 hSx (fun hSy5 => ?_)
        clear hSx
        clear hK K
        try simp only [Act.put, List.setIfInBounds_toArray, List.set_cons_zero, List.set_cons_succ]
        refine wpAnyH_take (i := 8) (oi := { dst := some 57, op := _, type := _, pos := _, after := _, guard := _ }) (v := ?_) rfl (by kernel_rfl) (by kernel_rfl) (by kernel_rfl) (fun _ _ _ h => h) (Or.inl ⟨by kernel_rfl, ?_⟩) (by assumption) ?_
        rotate_left
        · (intro w hSw; (try dsimp only at hSw); go_simp); all_goals (with_reducible rfl)
        try simp only [Act.put, List.setIfInBounds_toArray, List.set_cons_zero, List.set_cons_succ]
        refine wpAnyH_take (i := 9) (oi := { dst := some 58, op := _, type := _, pos := _, after := _, guard := _ }) (v := ?_) rfl (by kernel_rfl) (by kernel_rfl) (by kernel_rfl) (fun _ _ _ h => h) (Or.inl ⟨by kernel_rfl, ?_⟩) (by assumption) ?_
        rotate_left
        · (intro w hSw; (try dsimp only at hSw); go_simp); all_goals (with_reducible rfl)
        try simp only [Act.put, List.setIfInBounds_toArray, List.set_cons_zero, List.set_cons_succ]
        refine wpAnyH_ready (rs := [10]) (by kernel_rfl) (by simp) ?_
        refine (AllReadyH.cons (o := { dst := none, op := _, type := _, pos := _, after := _, guard := _ }) rfl (fun K hK => ?_) AllReadyH.nil)
        rw [if_pos (by kernel_rfl)]
        have q33 : w5.cell? ⟨rd, 15, none⟩ = some (Value.slice ao out.length co) := cell_of_heap hbx
        have f33 : w5.frozen? ⟨rd, 15, none⟩ = false := free_of_heap hbx
        go_wp2_with fail
        have hSx : (fun W : World => W.heap[w.heap.size]? = some (.cells #[.string ⟨s.meth.toArray⟩, .string ⟨s.tgt.toArray⟩, .int .i64 s.minor, (Value.slice af s.fields.length cf), .string ⟨s.body.toArray⟩, .bool cl] 31 (0, 0))) (w5.setCell ⟨rd, 15, none⟩ (.slice (some ⟨g, 0, none⟩) (out.length + 1) cap)) := (Below.heap_setCell _ _ _ _ (by simp only; omega)).trans hSy5
        refine hK.out _ _ hSx (fun hS6 => ?_)
        clear hSx
        clear hK K
        try simp only [Act.put]
        refine wpAnyH_done (by kernel_rfl) ?_ _
        have x6 := hS6
        clear q33 f33 hS6 hSy5 hSy hbx
        generalize (w5.setCell ⟨rd, 15, none⟩ (.slice (some ⟨g, 0, none⟩) (out.length + 1) cap)) = w6 at HP HM x6 ⊢
        have hms : ¬ ((ms w.heap.size ∧ ((Value.slice af s.fields.length cf)).ownBlock ≠ some w.heap.size) ∨ w.heap.size = g) := fun hm => by
          rcases hm with hm | hm
          · have := (K0.out.low _ hm.1).2; omega
          · omega
        have X6 := Lib.hid x6
        have HMS := Lib.hid hms
        clear x6 hms hgs
        go_wp2_with fail
        refine (anew_any HP.out).mono ?_
        rintro e w7 ⟨rfl, hI7, m7⟩
        have x7 : w7.heap[w.heap.size]? = some (.cells #[.string ⟨s.meth.toArray⟩, .string ⟨s.tgt.toArray⟩, .int .i64 s.minor, (Value.slice af s.fields.length cf), .string ⟨s.body.toArray⟩, .bool cl] 31 (0, 0)) := (m7.chg.block _ (Array.getElem?_eq_some_iff.1 X6.out).1 HMS.out).trans X6.out
        have y7 : w7.cell? ⟨w.heap.size, 5, none⟩ = some (.bool cl) := cell_of_heap x7
        have q7 : w7.cell? ⟨rd, 14, none⟩ = some (.bool s.done) := cell_of_heap hI7.box
        have f7 : w7.frozen? ⟨rd, 14, none⟩ = false := free_of_heap hI7.box
        have I7 := Lib.hid hI7
        have M7 := Lib.hid m7
        clear hI7 m7 x7
        go_wp2_with fail
        go_end0
        exact ⟨rfl, _, ⟨_, _, _, _, I7.out.set 14 (.bool cl) { s.anew with done := cl } rfl rfl rfl rfl⟩, (HM.out.trans M7.out).trans (I7.out.mvSet 14 _)⟩

end Go.Proofs.YtdilmefeofdkmaaGreatDoor
