/-
  WIRE: does a field connection have a value? (Printed by wip/gen/wisays.py.)
-/
import Derived.Test.YtdilmefeofdkmaaGreatDoorSm8
namespace Go.Proofs.YtdilmefeofdkmaaGreatDoor
open Go.RowKit

set_option maxHeartbeats 1000000 in
set_option maxRecDepth 100000 in
theorem says1_any (s word : List UInt8) (hs : s.length ≤ 140737488351232) (B : Nat) (w : World) (hc : w.cell? ⟨B, 0, none⟩ = some (.string ⟨word.toArray⟩)) :
    Calls Tryz.prog 137 #[.string ⟨s.toArray⟩, .pointer (some ⟨B, 0, none⟩)] w fun e w' => e = .returned (.bool (smallL s == word)) ∧ Below w.heap.size w w' := by
  have HS := Lib.hid (fun W => small_any s hs W)
  obtain ⟨x, hx⟩ : ∃ x, (smallL s == word) = x := ⟨_, rfl⟩
  have HV : Hid ((smallL s == word) = x) := hx
  rw [hx]
  generalize smallL s = sm at *
  clear hx hs
  go_enter Tryz.func137, Tryz.ntmps137
  go_upto_region 1 with (fail)
  refine wp_region_held_drew (S := (fun W : World => W.cell? ⟨B, 0, none⟩ = some (.string ⟨word.toArray⟩) ∧ Below w.heap.size w W)) (by kernel_rfl) ⟨hc, Below.drew (Below.refl _ _)⟩ (fun hS0 => ?_)
  refine wpAnyH_take (i := 0) (oi := { dst := some 4, op := _, type := _, pos := _, after := _, guard := _ }) (v := ?_) rfl (by kernel_rfl) (by kernel_rfl) (by kernel_rfl) (fun _ _ _ h => h) (Or.inl ⟨by kernel_rfl, ?_⟩) (by assumption) ?_
  rotate_left
  · (intro w hSw; (try dsimp only at hSw); go_simp); all_goals (with_reducible rfl)
  try simp only [Act.put, List.setIfInBounds_toArray, List.set_cons_zero, List.set_cons_succ]
  refine wpAnyH_take (i := 2) (oi := { dst := some 6, op := _, type := _, pos := _, after := _, guard := _ }) (v := ?_) rfl (by kernel_rfl) (by kernel_rfl) (by kernel_rfl) (fun _ _ _ h => h) (Or.inl ⟨by kernel_rfl, ?_⟩) (by assumption) ?_
  rotate_left
  · (intro w hSw; (try dsimp only at hSw); (have h1 := hSw.1); go_simp); all_goals (with_reducible rfl)
  try simp only [Act.put, List.setIfInBounds_toArray, List.set_cons_zero, List.set_cons_succ]
  refine wpAnyH_ready (rs := [1]) (by kernel_rfl) (by simp) ?_
  refine (AllReadyH.cons (o := { dst := some 5, op := _, type := _, pos := _, after := _, guard := _ }) rfl (fun K hK => ?_) AllReadyH.nil)
  rw [if_pos (by kernel_rfl)]
  refine wp_call_go Tryz.func49 (by kernel_rfl) (by kernel_rfl) (by rfl) (HS.out _) (by rfl) ?_
  rintro e w' ⟨rfl, hb⟩
  refine ⟨_, rfl, ?_⟩
  refine hK.out _ w' ⟨cell_later hb hS0.1, hS0.2.trans (hb.mono hS0.2.size)⟩ (fun hSz => ?_)
  clear hK K
  try simp only [Act.put, List.setIfInBounds_toArray, List.set_cons_zero, List.set_cons_succ]
  refine wpAnyH_take (i := 3) (oi := { dst := some 7, op := _, type := _, pos := _, after := _, guard := _ }) (v := ?_) rfl (by kernel_rfl) (by kernel_rfl) (by kernel_rfl) (fun _ _ _ h => h) (Or.inl ⟨by kernel_rfl, ?_⟩) (by assumption) ?_
  rotate_left
  · (intro w hSw; (try dsimp only at hSw); go_simp); all_goals (with_reducible rfl)
  try simp only [Act.put, List.setIfInBounds_toArray, List.set_cons_zero, List.set_cons_succ]
  refine wpAnyH_take (i := 4) (oi := { dst := some 3, op := _, type := _, pos := _, after := _, guard := _ }) (v := ?_) rfl (by kernel_rfl) (by kernel_rfl) (by kernel_rfl) (fun _ _ _ h => h) (Or.inl ⟨by kernel_rfl, ?_⟩) (by assumption) ?_
  rotate_left
  · (intro w hSw; (try dsimp only at hSw); go_simp); all_goals (with_reducible rfl)
  try simp only [Act.put, List.setIfInBounds_toArray, List.set_cons_zero, List.set_cons_succ]
  refine wpAnyH_done (by kernel_rfl) ?_ _
  go_wp2_with fail
  go_ret
  refine ⟨?_, hSz.2⟩
  rw [← HV.out]; first | rfl | (simp; done)

set_option maxHeartbeats 2000000 in
set_option maxRecDepth 100000 in
theorem sIndex_any {l : List (List UInt8)} {v : Value} {base : Nat} {w : World} (h : StrsAt w base l v) (hl : l.length ≤ 1000000) (p : List UInt8 → Bool) (g : Nat) (lb : Array Value) (eg : ∀ args w, (callFunc g args).run Tryz.prog w = .ok (.enter g args) w)
    (hp : ∀ x ∈ l, ∀ W, Below w.heap.size w W → Calls Tryz.prog g (#[.string ⟨x.toArray⟩] ++ lb) W fun e w' => e = .returned (.bool (p x)) ∧ Below W.heap.size W w') :
    Calls Tryz.prog 149 #[v, .func (.func g) #[] lb] w fun e w' => (∃ k : Int, e = .returned (.int .i64 k) ∧ decide (0 ≤ k) = l.any p) ∧ Below w.heap.size w w' := by
  obtain ⟨a, c, hv⟩ : ∃ a c, v = .slice a l.length c := by
    rcases h.2 with ⟨h1, h2⟩ | ⟨g, cap, cur, h1, _⟩
    · exact ⟨none, 0, by rw [h1, h2]⟩
    · exact ⟨_, _, h1⟩
  have hcell : Hid (∀ i x, l[i]? = some x → ∃ b, a = some ⟨b, 0, none⟩ ∧ w.cell? ⟨b, i, none⟩ = some (.string ⟨x.toArray⟩)) := fun i x hix => by
    have hlt := (List.getElem?_eq_some_iff.1 hix).1
    obtain ⟨b, c', hv2, _, _⟩ := h.form (by omega)
    have k1 := h.cells (g := b) (by rw [hv2]; rfl) i (.string ⟨x.toArray⟩) (by simp [strCs, hix])
    rw [Addr.add_lit, Nat.zero_add] at k1
    rw [hv] at hv2
    injection hv2 with e1 _ _
    exact ⟨b, e1, k1⟩
  subst hv
  have HP := Lib.hid hp
  clear h hp
  go_enter Tryz.func149, Tryz.ntmps149
  go_wp2
  go_loopg [5, 8] l.length (fun gg _ s8 wr => ∃ i : Nat, i ≤ l.length ∧ l.length - i ≤ gg ∧ s8 = .int .i64 i ∧ Hid ((l.take i).any p = false) ∧ Hid (Below w.heap.size w wr))
  case atStart => exact ⟨0, Nat.zero_le _, by omega, rfl, (show Hid _ from by show _ = _; simp), Below.refl _ _⟩
  case round =>
    obtain ⟨i, hin, hg, rfl, PA, BW⟩ := hrel
    by_cases hlt : i < l.length
    · have hltz : (i : Int) < (l.length : Int) := by omega
      obtain ⟨x, hix⟩ : ∃ x, l[i]? = some x := ⟨_, List.getElem?_eq_getElem hlt⟩
      obtain ⟨b, rfl, k0⟩ := hcell.out i x hix
      have e0 := cell_later BW.out k0
      have hcall := HP.out x (List.mem_of_getElem? hix) wr BW.out
      have htk : l.take (i + 1) = l.take i ++ [x] := by rw [List.take_add_one, hix]; rfl
      have hmem := List.mem_of_getElem? hix
      obtain ⟨y, hy⟩ : ∃ y, p x = y := ⟨_, rfl⟩
      rw [hy] at hcall
      cases y with
      | true =>
        have HA : Hid (l.any p = true) := by show _ = _; rw [List.any_eq_true]; exact ⟨x, hmem, hy⟩
        have HC := Lib.hid hcall
        clear hix k0 htk hmem hy hcall
        go_wp2_with (go_at_fn g; refine HC.out.mono ?_; rintro e w' ⟨rfl, hb⟩; have HB := Lib.hid hb; clear hb)
        go_ret
        exact ⟨⟨_, rfl, by rw [HA.out, decide_eq_true (by omega)]⟩, BW.out.trans (HB.out.mono BW.out.size)⟩
      | false =>
        have HA : Hid ((l.take (i + 1)).any p = false) := by show _ = _; rw [htk, List.any_append, PA.out]; simp [hy]
        have HC := Lib.hid hcall
        clear hix k0 htk hmem hy hcall
        go_wp2_with (go_at_fn g; refine HC.out.mono ?_; rintro e w' ⟨rfl, hb⟩; have HB := Lib.hid hb; clear hb)
        go_roundg (l.length - (i + 1))
        case measure => omega
        case rel => exact ⟨i + 1, by omega, by omega, by go_num, HA, BW.out.trans (HB.out.mono BW.out.size)⟩
    · have he : i = l.length := by omega
      subst he
      have PA' := PA.out
      rw [List.take_length] at PA'
      have PB := Lib.hid PA'
      clear PA' PA
      go_wp2
      go_ret
      exact ⟨⟨_, rfl, by rw [PB.out]; rfl⟩, BW.out⟩

set_option maxHeartbeats 1000000 in
theorem sContains_any {l : List (List UInt8)} {v : Value} {base : Nat} {w : World} (h : StrsAt w base l v) (hl : l.length ≤ 1000000) (p : List UInt8 → Bool) (g : Nat) (lb : Array Value) (eg : ∀ args w, (callFunc g args).run Tryz.prog w = .ok (.enter g args) w)
    (hp : ∀ x ∈ l, ∀ W, Below w.heap.size w W → Calls Tryz.prog g (#[.string ⟨x.toArray⟩] ++ lb) W fun e w' => e = .returned (.bool (p x)) ∧ Below W.heap.size W w') :
    Calls Tryz.prog 136 #[v, .func (.func g) #[] lb] w fun e w' => e = .returned (.bool (l.any p)) ∧ Below w.heap.size w w' := by
  have HC := Lib.hid (sIndex_any h hl p g lb eg hp)
  obtain ⟨x, hx⟩ : ∃ x, l.any p = x := ⟨_, rfl⟩
  rw [hx] at HC ⊢
  clear hx hp h
  go_enter Tryz.func136, Tryz.ntmps136
  go_wp2_with fail
  refine HC.out.mono ?_
  rintro e w' ⟨⟨k, rfl, hk⟩, hb⟩
  have HB := Lib.hid hb
  clear hb
  subst hk
  by_cases h0 : 0 ≤ k
  · go_wp2
    go_ret
    exact ⟨by rw [decide_eq_true h0]; rfl, HB.out⟩
  · have h1 : k < 0 := by omega
    go_wp2
    go_ret
    exact ⟨by rw [decide_eq_false (by omega)]; rfl, HB.out⟩

set_option maxHeartbeats 1000000 in
set_option maxRecDepth 100000 in
/-- the closure of complete -/
theorem says_any (rd B : Nat) (vf : Value) (fs : List (List UInt8 × List UInt8)) (word : List UInt8) (w : World) (hB : w.cell? ⟨B, 0, none⟩ = some (.pointer (some ⟨rd, 0, none⟩))) (h11 : w.cell? ⟨rd, 11, none⟩ = some vf) (hf : w.ownsRow 0 58 2 vf fs.length (pairCells fs)) (hl : fs.length ≤ 1000000)
    (hsh : ∀ f ∈ fs, f.2.length ≤ 140737488351232) :
    Calls Tryz.prog 135 #[.string ⟨word.toArray⟩, .pointer (some ⟨B, 0, none⟩)] w fun e w' => e = .returned (.bool ((valuesL connL fs).any fun v => smallL v == word)) ∧ Below w.heap.size w w' := by
  obtain ⟨w1, hw1⟩ : ∃ w1, w.alloc (.cells #[.string ⟨word.toArray⟩] 9) = w1 := ⟨_, rfl⟩
  have hb1 : Below w.heap.size w w1 := by rw [← hw1]; exact below_alloc (Below.refl _ _) (Nat.le_refl _) _
  have hc1 : w1.cell? ⟨w.heap.size, 0, none⟩ = some (.string ⟨word.toArray⟩) := by rw [← hw1]; exact cell_new _ _ _ _ _ _ rfl rfl
  have q0 : w1.cell? ⟨B, 0, none⟩ = some (.pointer (some ⟨rd, 0, none⟩)) := cell_later hb1 hB
  have HVS := Lib.hid (values_any rd vf fs connL w1 (cell_later hb1 h11) (row_kept hf fun g _ hgl => hb1.block g hgl) hl)
  have HVL : Hid ((valuesL connL fs).length ≤ 1000000) := Nat.le_trans (valuesL_len _ _) hl
  have HSH : Hid (∀ x ∈ valuesL connL fs, x.length ≤ 140737488351232) := fun x hx => by
    unfold valuesL at hx
    obtain ⟨f, hf1, rfl⟩ := List.mem_map.1 hx
    exact hsh f (List.mem_filter.1 hf1).1
  have B1 := Lib.hid hb1
  have C1 := Lib.hid hc1
  clear hf hl hsh h11 hB hb1 hc1
  go_enter Tryz.func135, Tryz.ntmps135
  go_wp2_with fail
  refine HVS.out.mono ?_
  rintro e w2 ⟨v, rfl, hs, hb2⟩
  have hx : v.oneCell' = true := by
    rcases hs.2 with ⟨rfl, _⟩ | ⟨g, cap, cur, rfl, _⟩ <;> rfl
  have HC := Lib.hid (sContains_any hs HVL.out (fun v => smallL v == word) 137 #[.pointer (some ⟨w.heap.size, 0, none⟩)] (enters_of Tryz.func137 (by kernel_rfl) rfl)
    (fun x hx W hW => says1_any x word (HSH.out x hx) w.heap.size W (cell_later hW (cell_later hb2 C1.out))))
  have B2 := Lib.hid hb2
  clear hs hb2
  go_wp2_with fail
  refine HC.out.mono ?_
  rintro e w3 ⟨rfl, hb3⟩
  have B3 := Lib.hid hb3
  clear hb3
  go_wp2_with fail
  go_ret
  exact ⟨rfl, (B1.out.trans (B2.out.mono B1.out.size)).trans (B3.out.mono (Nat.le_trans B1.out.size B2.out.size))⟩

end Go.Proofs.YtdilmefeofdkmaaGreatDoor
