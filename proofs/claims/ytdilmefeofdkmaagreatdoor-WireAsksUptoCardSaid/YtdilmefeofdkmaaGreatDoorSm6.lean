/-
  SEVERAL SMALL TEXTS IN ONE.
-/
import Derived.Test.YtdilmefeofdkmaaGreatDoorSm5
import Derived.Laws.EntriesVeiled
/-
  WIRE: does a field connection have a value? (Printed by wip/gen/wisays.py.)
-/
namespace Go.Proofs.YtdilmefeofdkmaaGreatDoor
open Go.RowKit

set_option maxHeartbeats 1000000 in
set_option maxRecDepth 100000 in
theorem says1_any (s word : List UInt8) (hs : s.length ≤ 140737488351232) (B : Nat) (w : World) (hc : w.cell? ⟨B, 0, none⟩ = some (.string ⟨word.toArray⟩)) :
    Calls Tryz.prog 137 #[.string ⟨s.toArray⟩, .pointer (some ⟨B, 0, none⟩)] w fun e w' => e = .returned (.bool (smallL s == word)) ∧ Below w.heap.size w w' := by
  have HS := Lib.hid (fun W => small_any s hs W)
  obtain ⟨x, hx⟩ : ∃ x, (smallL s == word) = x := ⟨_, rfl⟩
  have HV : Hid ((smallL s == word) = x) := hx
  rw [hx]
  generalize smallL s = sm at *
  clear hx hs
  go_enter Tryz.func137, Tryz.ntmps137
  go_upto_region 1 with (fail)
  refine wp_region_held_drew (S := (fun W : World => W.cell? ⟨B, 0, none⟩ = some (.string ⟨word.toArray⟩) ∧ Below w.heap.size w W)) (by kernel_rfl) ⟨hc, Below.drew (Below.refl _ _)⟩ (fun hS0 => ?_)
  refine wpAnyH_take (i := 0) (oi := { dst := some 4, op := _, type := _, pos := _, after := _, guard := _ }) (v := ?_) rfl (by kernel_rfl) (by kernel_rfl) (by kernel_rfl) (fun _ _ _ h => h) (Or.inl ⟨by kernel_rfl, ?_⟩) (by assumption) ?_
  rotate_left
  · (intro w hSw; (try dsimp only at hSw); go_simp); all_goals (with_reducible rfl)
  try simp only [Act.put, List.setIfInBounds_toArray, List.set_cons_zero, List.set_cons_succ]
  refine wpAnyH_take (i := 2) (oi := { dst := some 6, op := _, type := _, pos := _, after := _, guard := _ }) (v := ?_) rfl (by kernel_rfl) (by kernel_rfl) (by kernel_rfl) (fun _ _ _ h => h) (Or.inl ⟨by kernel_rfl, ?_⟩) (by assumption) ?_
  rotate_left
  · (intro w hSw; (try dsimp only at hSw); (have h1 := hSw.1); go_simp); all_goals (with_reducible rfl)
  try simp only [Act.put, List.setIfInBounds_toArray, List.set_cons_zero, List.set_cons_succ]
  refine wpAnyH_ready (rs := [1]) (by kernel_rfl) (by simp) ?_
  refine (AllReadyH.cons (o := { dst := some 5, op := _, type := _, pos := _, after := _, guard := _ }) rfl (fun K hK => ?_) AllReadyH.nil)
  rw [if_pos (by kernel_rfl)]
  refine wp_call_go Tryz.func49 (by kernel_rfl) (by kernel_rfl) (by rfl) (HS.out _) (by rfl) ?_
  rintro e w' ⟨rfl, hb⟩
  refine ⟨_, rfl, ?_⟩
  refine hK.out _ w' ⟨cell_later hb hS0.1, hS0.2.trans (hb.mono hS0.2.size)⟩ (fun hSz => ?_)
  clear hK K
  try simp only [Act.put, List.setIfInBounds_toArray, List.set_cons_zero, List.set_cons_succ]
  refine wpAnyH_take (i := 3) (oi := { dst := some 7, op := _, type := _, pos := _, after := _, guard := _ }) (v := ?_) rfl (by kernel_rfl) (by kernel_rfl) (by kernel_rfl) (fun _ _ _ h => h) (Or.inl ⟨by kernel_rfl, ?_⟩) (by assumption) ?_
  rotate_left
  · (intro w hSw; (try dsimp only at hSw); go_simp); all_goals (with_reducible rfl)
  try simp only [Act.put, List.setIfInBounds_toArray, List.set_cons_zero, List.set_cons_succ]
  refine wpAnyH_take (i := 4) (oi := { dst := some 3, op := _, type := _, pos := _, after := _, guard := _ }) (v := ?_) rfl (by kernel_rfl) (by kernel_rfl) (by kernel_rfl) (fun _ _ _ h => h) (Or.inl ⟨by kernel_rfl, ?_⟩) (by assumption) ?_
  rotate_left
  · (intro w hSw; (try dsimp only at hSw); go_simp); all_goals (with_reducible rfl)
  try simp only [Act.put, List.setIfInBounds_toArray, List.set_cons_zero, List.set_cons_succ]
  refine wpAnyH_done (by kernel_rfl) ?_ _
  go_wp2_with fail
  go_ret
  refine ⟨?_, hSz.2⟩
  rw [← HV.out]; first | rfl | (simp; done)

set_option maxHeartbeats 2000000 in
set_option maxRecDepth 100000 in
theorem sIndex_any {l : List (List UInt8)} {v : Value} {base : Nat} {w : World} (h : StrsAt w base l v) (hl : l.length ≤ 1000000) (p : List UInt8 → Bool) (g : Nat) (lb : Array Value) (eg : ∀ args w, (callFunc g args).run Tryz.prog w = .ok (.enter g args) w)
    (hp : ∀ x ∈ l, ∀ W, Below w.heap.size w W → Calls Tryz.prog g (#[.string ⟨x.toArray⟩] ++ lb) W fun e w' => e = .returned (.bool (p x)) ∧ Below W.heap.size W w') :
    Calls Tryz.prog 149 #[v, .func (.func g) #[] lb] w fun e w' => (∃ k : Int, e = .returned (.int .i64 k) ∧ decide (0 ≤ k) = l.any p) ∧ Below w.heap.size w w' := by
  obtain ⟨a, c, hv⟩ : ∃ a c, v = .slice a l.length c := by
    rcases h.2 with ⟨h1, h2⟩ | ⟨g, cap, cur, h1, _⟩
    · exact ⟨none, 0, by rw [h1, h2]⟩
    · exact ⟨_, _, h1⟩
  have hcell : Hid (∀ i x, l[i]? = some x → ∃ b, a = some ⟨b, 0, none⟩ ∧ w.cell? ⟨b, i, none⟩ = some (.string ⟨x.toArray⟩)) := fun i x hix => by
    have hlt := (List.getElem?_eq_some_iff.1 hix).1
    obtain ⟨b, c', hv2, _, _⟩ := h.form (by omega)
    have k1 := h.cells (g := b) (by rw [hv2]; rfl) i (.string ⟨x.toArray⟩) (by simp [strCs, hix])
    rw [Addr.add_lit, Nat.zero_add] at k1
    rw [hv] at hv2
    injection hv2 with e1 _ _
    exact ⟨b, e1, k1⟩
  subst hv
  have HP := Lib.hid hp
  clear h hp
  go_enter Tryz.func149, Tryz.ntmps149
  go_wp2
  go_loopg [5, 8] l.length (fun gg _ s8 wr => ∃ i : Nat, i ≤ l.length ∧ l.length - i ≤ gg ∧ s8 = .int .i64 i ∧ Hid ((l.take i).any p = false) ∧ Hid (Below w.heap.size w wr))
  case atStart => exact ⟨0, Nat.zero_le _, by omega, rfl, (show Hid _ from by show _ = _; simp), Below.refl _ _⟩
  case round =>
    obtain ⟨i, hin, hg, rfl, PA, BW⟩ := hrel
    by_cases hlt : i < l.length
    · have hltz : (i : Int) < (l.length : Int) := by omega
      obtain ⟨x, hix⟩ : ∃ x, l[i]? = some x := ⟨_, List.getElem?_eq_getElem hlt⟩
      obtain ⟨b, rfl, k0⟩ := hcell.out i x hix
      have e0 := cell_later BW.out k0
      have hcall := HP.out x (List.mem_of_getElem? hix) wr BW.out
      have htk : l.take (i + 1) = l.take i ++ [x] := by rw [List.take_add_one, hix]; rfl
      have hmem := List.mem_of_getElem? hix
      obtain ⟨y, hy⟩ : ∃ y, p x = y := ⟨_, rfl⟩
      rw [hy] at hcall
      cases y with
      | true =>
        have HA : Hid (l.any p = true) := by show _ = _; rw [List.any_eq_true]; exact ⟨x, hmem, hy⟩
        have HC := Lib.hid hcall
        clear hix k0 htk hmem hy hcall
        go_wp2_with (go_at_fn g; refine HC.out.mono ?_; rintro e w' ⟨rfl, hb⟩; have HB := Lib.hid hb; clear hb)
        go_ret
        exact ⟨⟨_, rfl, by rw [HA.out, decide_eq_true (by omega)]⟩, BW.out.trans (HB.out.mono BW.out.size)⟩
      | false =>
        have HA : Hid ((l.take (i + 1)).any p = false) := by show _ = _; rw [htk, List.any_append, PA.out]; simp [hy]
        have HC := Lib.hid hcall
        clear hix k0 htk hmem hy hcall
        go_wp2_with (go_at_fn g; refine HC.out.mono ?_; rintro e w' ⟨rfl, hb⟩; have HB := Lib.hid hb; clear hb)
        go_roundg (l.length - (i + 1))
        case measure => omega
        case rel => exact ⟨i + 1, by omega, by omega, by go_num, HA, BW.out.trans (HB.out.mono BW.out.size)⟩
    · have he : i = l.length := by omega
      subst he
      have PA' := PA.out
      rw [List.take_length] at PA'
      have PB := Lib.hid PA'
      clear PA' PA
      go_wp2
      go_ret
      exact ⟨⟨_, rfl, by rw [PB.out]; rfl⟩, BW.out⟩

set_option maxHeartbeats 1000000 in
theorem sContains_any {l : List (List UInt8)} {v : Value} {base : Nat} {w : World} (h : StrsAt w base l v) (hl : l.length ≤ 1000000) (p : List UInt8 → Bool) (g : Nat) (lb : Array Value) (eg : ∀ args w, (callFunc g args).run Tryz.prog w = .ok (.enter g args) w)
    (hp : ∀ x ∈ l, ∀ W, Below w.heap.size w W → Calls Tryz.prog g (#[.string ⟨x.toArray⟩] ++ lb) W fun e w' => e = .returned (.bool (p x)) ∧ Below W.heap.size W w') :
    Calls Tryz.prog 136 #[v, .func (.func g) #[] lb] w fun e w' => e = .returned (.bool (l.any p)) ∧ Below w.heap.size w w' := by
  have HC := Lib.hid (sIndex_any h hl p g lb eg hp)
  obtain ⟨x, hx⟩ : ∃ x, l.any p = x := ⟨_, rfl⟩
  rw [hx] at HC ⊢
  clear hx hp h
  go_enter Tryz.func136, Tryz.ntmps136
  go_wp2_with fail
  refine HC.out.mono ?_
  rintro e w' ⟨⟨k, rfl, hk⟩, hb⟩
  have HB := Lib.hid hb
  clear hb
  subst hk
  by_cases h0 : 0 ≤ k
  · go_wp2
    go_ret
    exact ⟨by rw [decide_eq_true h0]; rfl, HB.out⟩
  · have h1 : k < 0 := by omega
    go_wp2
    go_ret
    exact ⟨by rw [decide_eq_false (by omega)]; rfl, HB.out⟩

set_option maxHeartbeats 1000000 in
set_option maxRecDepth 100000 in
/-- the closure of complete -/
theorem says_any (rd B : Nat) (vf : Value) (fs : List (List UInt8 × List UInt8)) (word : List UInt8) (w : World) (hB : w.cell? ⟨B, 0, none⟩ = some (.pointer (some ⟨rd, 0, none⟩))) (h11 : w.cell? ⟨rd, 11, none⟩ = some vf) (hf : w.ownsRow 0 58 2 vf fs.length (pairCells fs)) (hl : fs.length ≤ 1000000)
    (hsh : ∀ f ∈ fs, f.2.length ≤ 140737488351232) :
    Calls Tryz.prog 135 #[.string ⟨word.toArray⟩, .pointer (some ⟨B, 0, none⟩)] w fun e w' => e = .returned (.bool ((valuesL connL fs).any fun v => smallL v == word)) ∧ Below w.heap.size w w' := by
  obtain ⟨w1, hw1⟩ : ∃ w1, w.alloc (.cells #[.string ⟨word.toArray⟩] 9) = w1 := ⟨_, rfl⟩
  have hb1 : Below w.heap.size w w1 := by rw [← hw1]; exact below_alloc (Below.refl _ _) (Nat.le_refl _) _
  have hc1 : w1.cell? ⟨w.heap.size, 0, none⟩ = some (.string ⟨word.toArray⟩) := by rw [← hw1]; exact cell_new _ _ _ _ _ _ rfl rfl
  have q0 : w1.cell? ⟨B, 0, none⟩ = some (.pointer (some ⟨rd, 0, none⟩)) := cell_later hb1 hB
  have HVS := Lib.hid (values_any rd vf fs connL w1 (cell_later hb1 h11) (row_kept hf fun g _ hgl => hb1.block g hgl) hl)
  have HVL : Hid ((valuesL connL fs).length ≤ 1000000) := Nat.le_trans (valuesL_len _ _) hl
  have HSH : Hid (∀ x ∈ valuesL connL fs, x.length ≤ 140737488351232) := fun x hx => by
    unfold valuesL at hx
    obtain ⟨f, hf1, rfl⟩ := List.mem_map.1 hx
    exact hsh f (List.mem_filter.1 hf1).1
  have B1 := Lib.hid hb1
  have C1 := Lib.hid hc1
  clear hf hl hsh h11 hB hb1 hc1
  go_enter Tryz.func135, Tryz.ntmps135
  go_wp2_with fail
  refine HVS.out.mono ?_
  rintro e w2 ⟨v, rfl, hs, hb2⟩
  have hx : v.oneCell' = true := by
    rcases hs.2 with ⟨rfl, _⟩ | ⟨g, cap, cur, rfl, _⟩ <;> rfl
  have HC := Lib.hid (sContains_any hs HVL.out (fun v => smallL v == word) 137 #[.pointer (some ⟨w.heap.size, 0, none⟩)] (enters_of Tryz.func137 (by kernel_rfl) rfl)
    (fun x hx W hW => says1_any x word (HSH.out x hx) w.heap.size W (cell_later hW (cell_later hb2 C1.out))))
  have B2 := Lib.hid hb2
  clear hs hb2
  go_wp2_with fail
  refine HC.out.mono ?_
  rintro e w3 ⟨rfl, hb3⟩
  have B3 := Lib.hid hb3
  clear hb3
  go_wp2_with fail
  go_ret
  exact ⟨rfl, (B1.out.trans (B2.out.mono B1.out.size)).trans (B3.out.mono (Nat.le_trans B1.out.size B2.out.size))⟩

end Go.Proofs.YtdilmefeofdkmaaGreatDoor

/-
  WIRE: Field. (Printed by wip/gen/wifld.py.)
-/
namespace Go.Proofs.YtdilmefeofdkmaaGreatDoor
open Go.RowKit

/-- fields that are read -/
def PairsAt (w : World) (v : Value) (fs : List (List UInt8 × List UInt8)) : Prop :=
  ∃ a c, v = .slice a fs.length c ∧ fs.length ≤ c ∧ fs.length ≤ 140737488351232 ∧ ∀ i f, fs[i]? = some f → ∃ b off, a = some ⟨b, off, none⟩ ∧ w.cell? ⟨b, off + i * 2, none⟩ = some (.string ⟨f.1.toArray⟩) ∧ w.cell? ⟨b, off + i * 2 + 1, none⟩ = some (.string ⟨f.2.toArray⟩)
theorem PairsAt.later {w w' : World} {v : Value} {fs : List (List UInt8 × List UInt8)} (h : PairsAt w v fs) (hb : Below w.heap.size w w') : PairsAt w' v fs := by
  obtain ⟨a, c, h1, h2, h3, h4⟩ := h
  exact ⟨a, c, h1, h2, h3, fun i f hf => by
    obtain ⟨b, off, k1, k2, k3⟩ := h4 i f hf
    exact ⟨b, off, k1, cell_later hb k2, cell_later hb k3⟩⟩
theorem PairsAt.drop {w : World} {b off c : Nat} {fs : List (List UInt8 × List UInt8)} (h : PairsAt w (.slice (some ⟨b, off, none⟩) fs.length c) fs) (i : Nat) (hi : i ≤ fs.length) : PairsAt w (.slice (some ⟨b, off + i * 2, none⟩) (fs.length - i) (c - i)) (fs.drop i) := by
  obtain ⟨a, c', h1, h2, h3, h4⟩ := h
  injection h1 with e1 _ e3
  subst e1 e3
  refine ⟨_, _, by rw [List.length_drop], by rw [List.length_drop]; omega, by rw [List.length_drop]; omega, fun j f hf => ?_⟩
  rw [List.getElem?_drop] at hf
  obtain ⟨b', off', k1, k2, k3⟩ := h4 _ f hf
  injection k1 with k1
  injection k1 with k1 k4 _
  subst k1 k4
  exact ⟨_, _, rfl, by rw [← k2]; congr 2; omega, by rw [← k3]; congr 2; omega⟩

set_option maxHeartbeats 1000000 in
set_option maxRecDepth 100000 in
theorem field1_any (f : List UInt8 × List UInt8) (name : List UInt8) (h1 : f.1.length ≤ 140737488351232) (h2 : name.length ≤ 140737488351232) (B : Nat) (w : World) (hc : w.cell? ⟨B, 0, none⟩ = some (.string ⟨name.toArray⟩)) :
    Calls Tryz.prog 48 #[.agg #[.string ⟨f.1.toArray⟩, .string ⟨f.2.toArray⟩], .pointer (some ⟨B, 0, none⟩)] w fun e w' => e = .returned (.bool (smallL f.1 == smallL name)) ∧ Below w.heap.size w w' := by
  have HS1 := Lib.hid (fun W => small_any f.1 h1 W)
  have HS2 := Lib.hid (fun W => small_any name h2 W)
  obtain ⟨w1, hw1⟩ : ∃ w1, w.alloc (.cells #[.string ⟨f.1.toArray⟩, .string ⟨f.2.toArray⟩] 58) = w1 := ⟨_, rfl⟩
  have q0 : w1.cell? ⟨B, 0, none⟩ = some (.string ⟨name.toArray⟩) := by rw [← hw1]; exact cell_past _ hc
  have q1 : w1.cell? ⟨w.heap.size, 0, none⟩ = some (.string ⟨f.1.toArray⟩) := by rw [← hw1]; exact cell_new _ _ _ _ _ _ rfl rfl
  have q2 : w1.cell? ⟨w.heap.size, 1, none⟩ = some (.string ⟨f.2.toArray⟩) := by rw [← hw1]; exact cell_new _ _ _ _ _ _ rfl rfl
  have HB0 : Hid (Below w.heap.size w w1) := by rw [← hw1]; exact below_alloc (Below.refl _ _) (Nat.le_refl _) _
  obtain ⟨x, hx⟩ : ∃ x, (smallL f.1 == smallL name) = x := ⟨_, rfl⟩
  have HV : Hid ((smallL f.1 == smallL name) = x) := hx
  rw [hx]
  generalize smallL f.1 = sm1 at *
  generalize smallL name = sm2 at *
  clear hx h1 h2
  go_enter Tryz.func48, Tryz.ntmps48
  go_upto_region 1 with (fail)
  try rw [hw1]
  refine wp_region_held_drew (S := (fun W : World => W.cell? ⟨B, 0, none⟩ = some (.string ⟨name.toArray⟩) ∧ W.cell? ⟨w.heap.size, 0, none⟩ = some (.string ⟨f.1.toArray⟩) ∧ W.cell? ⟨w.heap.size, 1, none⟩ = some (.string ⟨f.2.toArray⟩) ∧ Below w1.heap.size w1 W)) (by kernel_rfl) ⟨q0, q1, q2, Below.drew (Below.refl _ _)⟩ (fun hS0 => ?_)
  refine wpAnyH_take (i := 0) (oi := { dst := some 4, op := _, type := _, pos := _, after := _, guard := _ }) (v := ?_) rfl (by kernel_rfl) (by kernel_rfl) (by kernel_rfl) (fun _ _ _ h => h) (Or.inl ⟨by kernel_rfl, ?_⟩) (by assumption) ?_
  rotate_left
  · (intro w hSw; (try dsimp only at hSw); go_simp); all_goals (with_reducible rfl)
  try simp only [Act.put, List.setIfInBounds_toArray, List.set_cons_zero, List.set_cons_succ]
  refine wpAnyH_take (i := 1) (oi := { dst := some 5, op := _, type := _, pos := _, after := _, guard := _ }) (v := ?_) rfl (by kernel_rfl) (by kernel_rfl) (by kernel_rfl) (fun _ _ _ h => h) (Or.inl ⟨by kernel_rfl, ?_⟩) (by assumption) ?_
  rotate_left
  · (intro w hSw; (try dsimp only at hSw); (have h1 := hSw.1); (have h2 := hSw.2.1); go_simp); all_goals (with_reducible rfl)
  try simp only [Act.put, List.setIfInBounds_toArray, List.set_cons_zero, List.set_cons_succ]
  refine wpAnyH_take (i := 3) (oi := { dst := some 7, op := _, type := _, pos := _, after := _, guard := _ }) (v := ?_) rfl (by kernel_rfl) (by kernel_rfl) (by kernel_rfl) (fun _ _ _ h => h) (Or.inl ⟨by kernel_rfl, ?_⟩) (by assumption) ?_
  rotate_left
  · (intro w hSw; (try dsimp only at hSw); (have h1 := hSw.1); (have h2 := hSw.2.1); go_simp); all_goals (with_reducible rfl)
  try simp only [Act.put, List.setIfInBounds_toArray, List.set_cons_zero, List.set_cons_succ]
  refine wpAnyH_ready (rs := [2]) (by kernel_rfl) (by simp) ?_
  refine (AllReadyH.cons (o := { dst := some 6, op := _, type := _, pos := _, after := _, guard := _ }) rfl (fun K hK => ?_) AllReadyH.nil)
  rw [if_pos (by kernel_rfl)]
  refine wp_call_go Tryz.func49 (by kernel_rfl) (by kernel_rfl) (by rfl) (HS1.out _) (by rfl) ?_
  rintro e w' ⟨rfl, hb⟩
  refine ⟨_, rfl, ?_⟩
  refine hK.out _ w' ⟨cell_later hb hS0.1, cell_later hb hS0.2.1, cell_later hb hS0.2.2.1, hS0.2.2.2.trans (hb.mono hS0.2.2.2.size)⟩ (fun hSz1 => ?_)
  clear hK K
  try simp only [Act.put, List.setIfInBounds_toArray, List.set_cons_zero, List.set_cons_succ]
  refine wpAnyH_ready (rs := [4]) (by kernel_rfl) (by simp) ?_
  refine (AllReadyH.cons (o := { dst := some 8, op := _, type := _, pos := _, after := _, guard := _ }) rfl (fun K hK => ?_) AllReadyH.nil)
  rw [if_pos (by kernel_rfl)]
  refine wp_call_go Tryz.func49 (by kernel_rfl) (by kernel_rfl) (by rfl) (HS2.out _) (by rfl) ?_
  rintro e w' ⟨rfl, hb⟩
  refine ⟨_, rfl, ?_⟩
  refine hK.out _ w' ⟨cell_later hb hSz1.1, cell_later hb hSz1.2.1, cell_later hb hSz1.2.2.1, hSz1.2.2.2.trans (hb.mono hSz1.2.2.2.size)⟩ (fun hSz2 => ?_)
  clear hK K
  try simp only [Act.put, List.setIfInBounds_toArray, List.set_cons_zero, List.set_cons_succ]
  refine wpAnyH_take (i := 5) (oi := { dst := some 9, op := _, type := _, pos := _, after := _, guard := _ }) (v := ?_) rfl (by kernel_rfl) (by kernel_rfl) (by kernel_rfl) (fun _ _ _ h => h) (Or.inl ⟨by kernel_rfl, ?_⟩) (by assumption) ?_
  rotate_left
  · (intro w hSw; (try dsimp only at hSw); go_simp); all_goals (with_reducible rfl)
  try simp only [Act.put, List.setIfInBounds_toArray, List.set_cons_zero, List.set_cons_succ]
  refine wpAnyH_take (i := 6) (oi := { dst := some 3, op := _, type := _, pos := _, after := _, guard := _ }) (v := ?_) rfl (by kernel_rfl) (by kernel_rfl) (by kernel_rfl) (fun _ _ _ h => h) (Or.inl ⟨by kernel_rfl, ?_⟩) (by assumption) ?_
  rotate_left
  · (intro w hSw; (try dsimp only at hSw); go_simp); all_goals (with_reducible rfl)
  try simp only [Act.put, List.setIfInBounds_toArray, List.set_cons_zero, List.set_cons_succ]
  refine wpAnyH_done (by kernel_rfl) ?_ _
  go_wp2_with fail
  go_ret
  refine ⟨?_, HB0.out.trans (hSz2.2.2.2.mono HB0.out.size)⟩
  rw [← HV.out]; first | rfl | (simp; done)

set_option maxHeartbeats 2000000 in
set_option maxRecDepth 100000 in
theorem pIndex_any {l : List (List UInt8 × List UInt8)} {v : Value} {w : World} (h : PairsAt w v l) (p : List UInt8 × List UInt8 → Bool) (g : Nat) (lb : Array Value) (eg : ∀ args w, (callFunc g args).run Tryz.prog w = .ok (.enter g args) w)
    (hp : ∀ x ∈ l, ∀ W, Below w.heap.size w W → Calls Tryz.prog g (#[.agg #[.string ⟨x.1.toArray⟩, .string ⟨x.2.toArray⟩]] ++ lb) W fun e w' => e = .returned (.bool (p x)) ∧ Below W.heap.size W w') :
    Calls Tryz.prog 50 #[v, .func (.func g) #[] lb] w fun e w' => (∃ k : Int, e = .returned (.int .i64 k) ∧ ((∃ (i : Nat) (x : List UInt8 × List UInt8), k = i ∧ l[i]? = some x ∧ p x = true ∧ (l.take i).any p = false) ∨ (k = -1 ∧ l.any p = false))) ∧ Below w.heap.size w w' := by
  obtain ⟨a, c, rfl, _, hl, hc⟩ := h
  have hcell := Lib.hid hc
  have HP := Lib.hid hp
  clear hp hc
  go_enter Tryz.func50, Tryz.ntmps50
  go_wp2
  go_loopg [5, 8] l.length (fun gg _ s8 wr => ∃ i : Nat, i ≤ l.length ∧ l.length - i ≤ gg ∧ s8 = .int .i64 i ∧ Hid ((l.take i).any p = false) ∧ Hid (Below w.heap.size w wr))
  case atStart => exact ⟨0, Nat.zero_le _, by omega, rfl, (show Hid _ from by show _ = _; simp), Below.refl _ _⟩
  case round =>
    obtain ⟨i, hin, hg, rfl, PA, BW⟩ := hrel
    by_cases hlt : i < l.length
    · have hltz : (i : Int) < (l.length : Int) := by omega
      obtain ⟨x, hix⟩ : ∃ x, l[i]? = some x := ⟨_, List.getElem?_eq_getElem hlt⟩
      obtain ⟨b, off, rfl, k0, k1⟩ := hcell.out i x hix
      have e0 := cell_later BW.out k0
      have e1 := cell_later BW.out k1
      have hcall := HP.out x (List.mem_of_getElem? hix) wr BW.out
      have htk : l.take (i + 1) = l.take i ++ [x] := by rw [List.take_add_one, hix]; rfl
      obtain ⟨y, hy⟩ : ∃ y, p x = y := ⟨_, rfl⟩
      rw [hy] at hcall
      have HIX := Lib.hid hix
      have HY := Lib.hid hy
      cases y with
      | true =>
        have HC := Lib.hid hcall
        clear hix k0 k1 htk hy hcall
        go_wp2_with (go_at_fn g; refine HC.out.mono ?_; rintro e w' ⟨rfl, hb⟩; have HB := Lib.hid hb; clear hb)
        go_ret
        exact ⟨⟨_, rfl, .inl ⟨i, x, rfl, HIX.out, HY.out, PA.out⟩⟩, BW.out.trans (HB.out.mono BW.out.size)⟩
      | false =>
        have HA : Hid ((l.take (i + 1)).any p = false) := by show _ = _; rw [htk, List.any_append, PA.out]; simp [hy]
        have HC := Lib.hid hcall
        clear hix k0 k1 htk hy hcall
        go_wp2_with (go_at_fn g; refine HC.out.mono ?_; rintro e w' ⟨rfl, hb⟩; have HB := Lib.hid hb; clear hb)
        go_roundg (l.length - (i + 1))
        case measure => omega
        case rel => exact ⟨i + 1, by omega, by omega, by go_num, HA, BW.out.trans (HB.out.mono BW.out.size)⟩
    · have he : i = l.length := by omega
      subst he
      have PA' := PA.out
      rw [List.take_length] at PA'
      have PB := Lib.hid PA'
      clear PA' PA
      go_wp2
      go_ret
      exact ⟨⟨_, rfl, .inr ⟨rfl, PB.out⟩⟩, BW.out⟩

set_option maxHeartbeats 1000000 in
theorem pContains_any {l : List (List UInt8 × List UInt8)} {v : Value} {w : World} (h : PairsAt w v l) (p : List UInt8 × List UInt8 → Bool) (g : Nat) (lb : Array Value) (eg : ∀ args w, (callFunc g args).run Tryz.prog w = .ok (.enter g args) w)
    (hp : ∀ x ∈ l, ∀ W, Below w.heap.size w W → Calls Tryz.prog g (#[.agg #[.string ⟨x.1.toArray⟩, .string ⟨x.2.toArray⟩]] ++ lb) W fun e w' => e = .returned (.bool (p x)) ∧ Below W.heap.size W w') :
    Calls Tryz.prog 51 #[v, .func (.func g) #[] lb] w fun e w' => e = .returned (.bool (l.any p)) ∧ Below w.heap.size w w' := by
  have HC := Lib.hid (pIndex_any h p g lb eg hp)
  clear hp h
  go_enter Tryz.func51, Tryz.ntmps51
  go_wp2_with fail
  refine HC.out.mono ?_
  rintro e w' ⟨⟨k, rfl, hor⟩, hb⟩
  have HB := Lib.hid hb
  clear hb
  rcases hor with ⟨i, x, rfl, hix, hy, _⟩ | ⟨rfl, ha⟩
  · have h0 : (0 : Int) ≤ (i : Int) := by omega
    have HA : Hid (l.any p = true) := by show _ = _; rw [List.any_eq_true]; exact ⟨x, List.mem_of_getElem? hix, hy⟩
    clear hix hy
    go_wp2
    go_ret
    exact ⟨by rw [HA.out]; rfl, HB.out⟩
  · have HA := Lib.hid ha
    clear ha
    go_wp2
    go_ret
    exact ⟨by rw [HA.out]; rfl, HB.out⟩

/-- the value of the only field of a name -/
def fieldV (fs : List (List UInt8 × List UInt8)) (name : List UInt8) : Option (List UInt8) :=
  match fs.filter fun f => smallL f.1 == smallL name with
  | [f] => some f.2
  | _ => none
theorem filter_none {α : Type} {p : α → Bool} : ∀ {l : List α}, l.any p = false → l.filter p = []
  | [], _ => rfl
  | a :: l, h => by
    simp only [List.any_cons, Bool.or_eq_false_iff] at h
    rw [List.filter_cons, h.1, filter_none h.2]; rfl
theorem filter_some {α : Type} {p : α → Bool} : ∀ {l : List α}, l.any p = true → l.filter p ≠ []
  | [], h => by simp at h
  | a :: l, h => by
    rw [List.filter_cons]
    split
    · simp
    · rename_i ha
      refine filter_some (l := l) ?_
      simp only [List.any_cons] at h
      rwa [show p a = false from by simpa using ha, Bool.false_or] at h
theorem filter_at {α : Type} {p : α → Bool} {l : List α} {i : Nat} {x : α} (h : l[i]? = some x) (hx : p x = true) (hn : (l.take i).any p = false) : l.filter p = x :: (l.drop (i + 1)).filter p := by
  have hlt := (List.getElem?_eq_some_iff.1 h)
  have : l = l.take i ++ x :: l.drop (i + 1) := by
    conv => lhs; rw [← List.take_append_drop i l, List.drop_eq_getElem_cons hlt.1]
    rw [hlt.2]
  conv => lhs; rw [this]
  rw [List.filter_append, filter_none hn, List.nil_append, List.filter_cons, hx]; rfl

set_option maxHeartbeats 2000000 in
set_option maxRecDepth 100000 in
theorem fieldV_any {fs : List (List UInt8 × List UInt8)} {v : Value} {w : World} (h : PairsAt w v fs) (hfs : ∀ f ∈ fs, f.1.length ≤ 140737488351232) (name : List UInt8) (hn : name.length ≤ 140737488351232) :
    Calls Tryz.prog 24 #[v, .string ⟨name.toArray⟩] w fun e w' => e = .returned (.tuple #[.string ⟨((fieldV fs name).getD []).toArray⟩, .bool (fieldV fs name).isSome]) ∧ Below w.heap.size w w' := by
  obtain ⟨w1, hw1⟩ : ∃ w1, w.alloc (.cells #[.string ⟨name.toArray⟩] 9) = w1 := ⟨_, rfl⟩
  have HB0 : Hid (Below w.heap.size w w1) := by rw [← hw1]; exact below_alloc (Below.refl _ _) (Nat.le_refl _) _
  have q0 : w1.cell? ⟨w.heap.size, 0, none⟩ = some (.string ⟨name.toArray⟩) := by rw [← hw1]; exact cell_new _ _ _ _ _ _ rfl rfl
  have HP1 := Lib.hid (h.later HB0.out)
  have HF : Hid (∀ (W : World), Below w1.heap.size w1 W → ∀ l : List (List UInt8 × List UInt8), (∀ f ∈ l, f ∈ fs) → ∀ x ∈ l, ∀ W', Below W.heap.size W W' → Calls Tryz.prog 48 (#[.agg #[.string ⟨x.1.toArray⟩, .string ⟨x.2.toArray⟩]] ++ #[.pointer (some ⟨w.heap.size, 0, none⟩)]) W' fun e w' => e = .returned (.bool (smallL x.1 == smallL name)) ∧ Below W'.heap.size W' w') :=
    fun W hW l hl x hx W' hW' => field1_any x name (hfs x (hl x hx)) hn w.heap.size W' (cell_later (hW.trans (hW'.mono hW.size)) q0)
  have HI := Lib.hid (pIndex_any HP1.out (fun f => smallL f.1 == smallL name) 48 #[.pointer (some ⟨w.heap.size, 0, none⟩)] (enters_of Tryz.func48 (by kernel_rfl) rfl) (HF.out w1 (Below.refl _ _) fs (fun _ x => x)))
  obtain ⟨a, c, rfl, hnc, hl, hc⟩ := h
  have HC := Lib.hid hc
  have HNC := Lib.hid hnc
  clear hc hfs q0 hn hnc
  go_enter Tryz.func24, Tryz.ntmps24
  go_wp2_with fail
  refine HI.out.mono ?_
  rintro e w2 ⟨⟨k, rfl, hor⟩, hb⟩
  have HB2 := Lib.hid hb
  clear hb HI
  rcases hor with ⟨i, x, rfl, hix, hy, hno⟩ | ⟨rfl, ha⟩
  · obtain ⟨b, off, rfl, k0, k1⟩ := HC.out i x hix
    have hlt : i < fs.length := (List.getElem?_eq_some_iff.1 hix).1
    have hltz : (i : Int) < (fs.length : Int) := by omega
    have hi0 : ¬ ((i : Int) < 0) := by omega
    have hib : (i : Int) < 140737488351232 := by omega
    have HFI : Hid (fs.filter (fun f => smallL f.1 == smallL name) = x :: (fs.drop (i + 1)).filter (fun f => smallL f.1 == smallL name)) := filter_at hix hy hno
    have e1 : w2.cell? ⟨b, off + i * 2 + 1, none⟩ = some (.string ⟨x.2.toArray⟩) := cell_later (HB0.out.trans (HB2.out.mono HB0.out.size)) k1
    have HE1 := Lib.hid e1
    have hwr : wrap64 ((i : Int) + 1) = (i : Int) + 1 := by unfold wrap64; omega
    have hnc := HNC.out
    clear hix hy hno k0 k1 e1
    by_cases hic : c = i + 1
    · subst hic
      have hlast : i + 1 = fs.length := by omega
      have hcl : ((i : Int) + 1) = (fs.length : Int) := by omega
      have HD : Hid (PairsAt w2 (.slice (some ⟨b, off, none⟩) 0 0) (fs.drop (i + 1))) := by
        have hd : fs.drop (i + 1) = [] := List.drop_of_length_le (by omega)
        rw [hd]
        exact ⟨_, _, rfl, Nat.le_refl _, by decide, fun j f hf => by simp at hf⟩
      have HCC := Lib.hid (pContains_any HD.out (fun f => smallL f.1 == smallL name) 48 #[.pointer (some ⟨w.heap.size, 0, none⟩)] (enters_of Tryz.func48 (by kernel_rfl) rfl) (HF.out w2 HB2.out _ (fun _ hx => List.mem_of_mem_drop hx)))
      obtain ⟨y, hy2⟩ : ∃ y, (fs.drop (i + 1)).any (fun f => smallL f.1 == smallL name) = y := ⟨_, rfl⟩
      rw [hy2] at HCC
      have HY := Lib.hid hy2
      clear hy2 hnc hib
      go_wp2_with fail
      refine HCC.out.mono ?_
      rintro e w3 ⟨rfl, hb3⟩
      have HB3 := Lib.hid hb3
      have HBB := Lib.hid (HB0.out.trans ((HB2.out.trans (HB3.out.mono HB2.out.size)).mono HB0.out.size))
      have e1 := cell_later HB3.out HE1.out
      clear hb3 HF HCC HP1 HD HC
      cases y with
      | true =>
        have HR : Hid (fieldV fs name = none) := by
          show _ = _
          unfold fieldV
          rw [HFI.out]
          cases hq : (fs.drop (i + 1)).filter (fun f => smallL f.1 == smallL name) with
          | nil => exact absurd hq (filter_some HY.out)
          | cons _ _ => rfl
        go_wp2
        go_ret2
        exact ⟨by rw [HR.out]; rfl, HBB.out⟩
      | false =>
        have HR : Hid (fieldV fs name = some x.2) := by
          show _ = _
          unfold fieldV
          rw [HFI.out, filter_none HY.out]
        go_wp2
        go_ret2
        exact ⟨by rw [HR.out]; rfl, HBB.out⟩
    · skip
      have hlc : (i : Int) + 1 < (c : Int) := by omega
      have HD := Lib.hid ((HP1.out.later HB2.out).drop (i + 1) (by omega))
      have HCC := Lib.hid (pContains_any HD.out (fun f => smallL f.1 == smallL name) 48 #[.pointer (some ⟨w.heap.size, 0, none⟩)] (enters_of Tryz.func48 (by kernel_rfl) rfl) (HF.out w2 HB2.out _ (fun _ hx => List.mem_of_mem_drop hx)))
      obtain ⟨y, hy2⟩ : ∃ y, (fs.drop (i + 1)).any (fun f => smallL f.1 == smallL name) = y := ⟨_, rfl⟩
      rw [hy2] at HCC
      have HY := Lib.hid hy2
      clear hy2 hic hnc hib
      go_wp2_with fail
      refine HCC.out.mono ?_
      rintro e w3 ⟨rfl, hb3⟩
      have HB3 := Lib.hid hb3
      have HBB := Lib.hid (HB0.out.trans ((HB2.out.trans (HB3.out.mono HB2.out.size)).mono HB0.out.size))
      have e1 := cell_later HB3.out HE1.out
      clear hb3 HF HCC HP1 HD HC
      cases y with
      | true =>
        have HR : Hid (fieldV fs name = none) := by
          show _ = _
          unfold fieldV
          rw [HFI.out]
          cases hq : (fs.drop (i + 1)).filter (fun f => smallL f.1 == smallL name) with
          | nil => exact absurd hq (filter_some HY.out)
          | cons _ _ => rfl
        go_wp2
        go_ret2
        exact ⟨by rw [HR.out]; rfl, HBB.out⟩
      | false =>
        have HR : Hid (fieldV fs name = some x.2) := by
          show _ = _
          unfold fieldV
          rw [HFI.out, filter_none HY.out]
        go_wp2
        go_ret2
        exact ⟨by rw [HR.out]; rfl, HBB.out⟩
  · have HR : Hid (fieldV fs name = none) := by
      show _ = _
      unfold fieldV
      rw [filter_none ha]
    have HBB := Lib.hid (HB0.out.trans (HB2.out.mono HB0.out.size))
    clear ha HF HP1 HC
    go_wp2
    go_ret2
    exact ⟨by rw [HR.out]; rfl, HBB.out⟩

end Go.Proofs.YtdilmefeofdkmaaGreatDoor
