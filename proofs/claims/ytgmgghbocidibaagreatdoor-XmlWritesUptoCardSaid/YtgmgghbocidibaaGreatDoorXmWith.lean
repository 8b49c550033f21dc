/-
  xml's reader: within: what stands next within the innermost element. (Printed by wip/gen/xmwith.py.)
-/
import Derived.Test.YtgmgghbocidibaaGreatDoorXmTop
namespace Go.Proofs.YtgmgghbocidibaaGreatDoor
open Go.RowKit Go.Lib Go.PlainAid

/-- what the variables hold, as far as the reader wants it -/
structure GlobX (w : World) : Prop where
  g : Glob w
  c : GlobC w
theorem Glob.from {w w' : World} {B : Nat} (h : Glob w) (hb : Below B w w') (hB : 8 ≤ B) (hs : 8 ≤ w.heap.size) : Glob w' := by
  have cl : ∀ {k o : Nat} {v : Value}, k < 8 → w.cell? ⟨k, o, none⟩ = some v → w'.cell? ⟨k, o, none⟩ = some v := fun {k o v} hk hv => (World.cell?_of_block (hb.block _ (by show k < B; omega))).trans hv
  exact ⟨Nat.le_trans h.size hb.size, cl (by decide) h.tz, var?_below (g := 5) hb (by kernel_rfl) (Nat.lt_of_lt_of_le (by decide) hB) h.pow,
    by obtain ⟨a, b, c⟩ := h.esyn; exact ⟨a, b, cl (by decide) c⟩, by obtain ⟨a, b, c⟩ := h.eran; exact ⟨a, b, cl (by decide) c⟩⟩
theorem GlobX.from {w w' : World} {b B : Nat} (h : GlobX w) (hf : From b B w w') (hb : 8 ≤ b) (hbw : b ≤ w.heap.size) (hlow : b < B) : GlobX w' := by
  have hB : Below b w w' := Chg.below hf hbw (fun _ h => by omega)
  exact ⟨h.g.from hB hb h.c.size, Nat.le_trans h.c.size hB.size, h.c.tabs.kept fun k o v hk hv => (World.cell?_of_block (hB.block k (by omega))).trans hv⟩
theorem decodeRune_any (l : Bs) (w : World) (hT : Tabs w) : Calls Tryz.prog 61 #[.string ⟨l.toArray⟩] w fun e w' => e = .returned (.tuple #[.int .i32 (if l = [] then 65533 else (decodeL l).1 : Nat), .int .i64 (if l = [] then 0 else (decodeL l).2 : Nat)]) ∧ Below w.heap.size w w' := by
  have h := Tryz.utf8_DecodeRuneInString ⟨l.toArray⟩ w hT
  have e : Lib.decodeGo ⟨l.toArray⟩ = if l = [] then (65533, 0) else decodeL l := by
    unfold Lib.decodeGo decodeL
    by_cases hl : l = []
    · subst hl; rfl
    · rw [if_neg hl, if_neg]
      rw [sz_str]
      have := List.length_pos_iff.2 hl
      omega
  rw [e] at h
  by_cases hl : l = []
  · simp only [if_pos hl] at h ⊢; exact h
  · simp only [if_neg hl] at h ⊢; exact h
/-- how within ends -/
def WithOut (b B : Nat) (S : ByteArray) (st : R (List Opn × Bs)) (w : World) (e : Ending) (w' : World) : Prop :=
  e = .returned (.tuple #[]) ∧ From b B w w' ∧ match st with
    | .ok (ps, r) => Mach w' b B S r ps
    | .error (c, k) => MachBad w' b S c k
/-- is what stands here more than a blank? -/
def solidX (r : Bs) : Bool := !(r.head?.any blankB)
theorem blank_of (c : UInt8) : decide (0 ≤ Lib.indexByte [32, 9, 10, 13] c) = blankB c := by
  have := blank_at ⟨c.toNat, c.toNat_lt⟩
  simpa using this

theorem rfail_later {w : World} {b a : Nat} {S : ByteArray} {r : Bs} {pv : Value} (h : a ≤ S.size ∧ S.size ≤ 8000 ∧ S.data.toList.drop a = r) (hr : RdAt w b S r pv) (hh : w.heap[b]? = some (.cells (rdC S a (.pointer none) pv) 60 (0, 0))) (W : World) (hb : Below w.heap.size w W) :
    Calls Tryz.prog 30 #[.pointer (some ⟨b, 0, none⟩), .int .i64 55, .int .i64 (a : Int)] W (RdOut b S pv (.error (55, r.length)) W) := rfail_at h.1 h.2.1 h.2.2 b pv 55 W ((hb.block b hr.lt).trans hh)
theorem rfail_zero {w : World} {b : Nat} {S : ByteArray} {r : Bs} {pv : Value} (hr : RdAt w b S r pv) (W : World) (hb : Below w.heap.size w W) :
    Calls Tryz.prog 30 #[.pointer (some ⟨b, 0, none⟩), .int .i64 55, .int .i64 (S.size : Int)] W (RdOut b S pv (.error (55, 0)) W) := by
  have h1 := rfail_any (hr.later hb) 55 0 (Nat.zero_le _)
  rw [show ((S.size : Int) - ((0 : Nat) : Int)) = (S.size : Int) from by omega] at h1
  exact h1
theorem rahead_later {w : World} {b : Nat} {S : ByteArray} {r : Bs} {pv : Value} (hr : RdAt w b S r pv) (W : World) (hb : Below w.heap.size w W) (p : Bs) :
    Calls Tryz.prog 26 #[.pointer (some ⟨b, 0, none⟩), .string ⟨p.toArray⟩] W fun e w' => e = .returned (.bool (p.isPrefixOf r)) ∧ Below W.heap.size W w' := rahead_any (hr.later hb) p

set_option maxHeartbeats 8000000 in
set_option maxRecDepth 100000 in
theorem within_any {w : World} {b B : Nat} {S : ByteArray} {r : Bs} {o : Opn} {ps : List Opn} (h : Mach w b B S r (o :: ps)) (hO : StackOK (o :: ps)) (hW : stackW (o :: ps) + 6 * r.length ≤ 48000) (hG : GlobX w) (hb8 : 8 ≤ b) :
    Calls Tryz.prog 42 #[.pointer (some ⟨b, 0, none⟩)] w (WithOut b B S (stepL o ps r) w) := by
  obtain ⟨pv, gs0, hR, hP⟩ := h.ex
  obtain ⟨g, gs, rfl⟩ : ∃ g gs, gs0 = g :: gs := by
    have := hP.at_.len
    match gs0, this with
    | g :: gs, _ => exact ⟨g, gs, rfl⟩
    | [], h => simp at h
  have hgl : gs.length = ps.length := by have := hP.at_.len; simpa using this
  obtain ⟨⟨kv, v, hO1⟩, hPA⟩ := hP.at_
  obtain ⟨pb, cv, rfl, hpb, hpl⟩ := hP.row.form (by simp)
  have hlen : (o :: ps).length = ps.length + 1 := rfl
  rw [hlen] at hR hP
  have hcs := hP.row.cells (g := pb) rfl
  have c1 : w.cell? ⟨pb, ps.length, none⟩ = some (ptr g) := by
    have := hcs ps.length (ptr g) (by simp [← hgl])
    rw [Addr.add_lit, Nat.zero_add] at this
    exact this
  unfold ptr at c1
  obtain ⟨a0, ha0, hs, hd, q0, q1, q2, q3, hh⟩ := hR.cells
  obtain ⟨ak, ck, rfl⟩ := hO1.kids.form
  obtain ⟨ad, hbx, hadv⟩ := hO1.bd.box
  have hx := xt_ext hd
  have hsm := opn_small hO.1 (by simp only [stackW] at hW; omega)
  have hnz : (ps.length : Int) ≤ 20 := by have := hO.1.1; omega
  have haz : (a0 : Int) ≤ (S.size : Int) := by omega
  have HR := Lib.hid hR
  have HP := Lib.hid hP
  have HO1 := Lib.hid hO1
  have HSO := Lib.hid hO
  have HSW := Lib.hid hW
  have HG := Lib.hid hG
  have HBX := Lib.hid hbx
  have HDR := Lib.hid (fun W (hT : Tabs W) => decodeRune_any r W hT)
  have hBg : B ≤ g := hP.far g (by simp)
  have hlow := hP.low
  have hbg : b < g := by omega
  have hvb : Hid (v.ownBlock ≠ some b) := fun e => by have := (hO1.bd.own.lt b e).1; omega
  have hgw := hO1.top
  have hps20 : (o :: ps).length ≤ 20 := by rw [hlen]; have := hO.1.1; omega
  have HH := Lib.hid hh
  have HXX := Lib.hid (And.intro ha0 (And.intro hs hd))
  obtain ⟨c, hc⟩ : ∃ c : Nat, (if r = [] then 65533 else (decodeL r).1) = c := ⟨_, rfl⟩
  obtain ⟨n, hn⟩ : ∃ n : Nat, (if r = [] then 0 else (decodeL r).2) = n := ⟨_, rfl⟩
  have hcm : (c : Int) ≤ 1114111 := by
    rw [← hc]
    split
    · omega
    · have := decode_max r; omega
  rw [hc, hn] at HDR
  have HC := Lib.hid hc
  have HN := Lib.hid hn
  clear h hO hW hG hR hP hO1 hPA hcs hbx hh hd hc hn ha0
  generalize hNN : ps.length = N at *
  go_enter Tryz.func42, Tryz.ntmps42
  go_upto_region 0 with (fail)
  go_quiet (fail)
  go_upto_region 1 with (fail)
  obtain ⟨W0, hW0⟩ : ∃ W0, w.drewN nq = W0 := ⟨_, rfl⟩
  have B0 : Hid (Below w.heap.size w W0) := by show Below _ _ _; rw [← hW0]; exact bel_drewN (Below.refl _ _) _
  rw [hW0]
  clear hW0
  refine wp_region_held_drew (S := (fun W : World => Below w.heap.size w W)) (by kernel_rfl) (Below.drew B0.out) (fun hS0 => ?_)
  refine wpAnyH_take (i := 0) (oi := { dst := some 19, op := _, type := _, pos := _, after := _, guard := _ }) (v := ?_) rfl (by kernel_rfl) (by kernel_rfl) (by kernel_rfl) (fun _ _ _ h => h) (Or.inl ⟨by kernel_rfl, ?_⟩) (by assumption) ?_
  rotate_left
  · (intro w hSw; (try dsimp only at hSw); go_simp); all_goals (with_reducible rfl)
  try simp only [Act.put, List.setIfInBounds_toArray, List.set_cons_zero, List.set_cons_succ]
  refine wpAnyH_take (i := 1) (oi := { dst := some 20, op := _, type := _, pos := _, after := _, guard := _ }) (v := ?_) rfl (by kernel_rfl) (by kernel_rfl) (by kernel_rfl) (fun _ _ _ h => h) (Or.inl ⟨by kernel_rfl, ?_⟩) (by assumption) ?_
  rotate_left
  · (intro w hSw; (try dsimp only at hSw); go_simp); all_goals (with_reducible rfl)
  try simp only [Act.put, List.setIfInBounds_toArray, List.set_cons_zero, List.set_cons_succ]
  refine wpAnyH_take (i := 2) (oi := { dst := some 21, op := _, type := _, pos := _, after := _, guard := _ }) (v := ?_) rfl (by kernel_rfl) (by kernel_rfl) (by kernel_rfl) (fun _ _ _ h => h) (Or.inl ⟨by kernel_rfl, ?_⟩) (by assumption) ?_
  rotate_left
  · (intro w hSw; (try dsimp only at hSw); go_simp); all_goals (with_reducible rfl)
  try simp only [Act.put, List.setIfInBounds_toArray, List.set_cons_zero, List.set_cons_succ]
  refine wpAnyH_take (i := 3) (oi := { dst := some 22, op := _, type := _, pos := _, after := _, guard := _ }) (v := ?_) rfl (by kernel_rfl) (by kernel_rfl) (by kernel_rfl) (fun _ _ _ h => h) (Or.inl ⟨by kernel_rfl, ?_⟩) (by assumption) ?_
  rotate_left
  · (intro w hSw; (try dsimp only at hSw); have j0 := cell_later hSw q0; have j1 := cell_later hSw q1; go_simp); all_goals (with_reducible rfl)
  try simp only [Act.put, List.setIfInBounds_toArray, List.set_cons_zero, List.set_cons_succ]
  refine wpAnyH_take (i := 4) (oi := { dst := some 23, op := _, type := _, pos := _, after := _, guard := _ }) (v := ?_) rfl (by kernel_rfl) (by kernel_rfl) (by kernel_rfl) (fun _ _ _ h => h) (Or.inl ⟨by kernel_rfl, ?_⟩) (by assumption) ?_
  rotate_left
  · (intro w hSw; (try dsimp only at hSw); go_simp); all_goals (with_reducible rfl)
  try simp only [Act.put, List.setIfInBounds_toArray, List.set_cons_zero, List.set_cons_succ]
  refine wpAnyH_take (i := 5) (oi := { dst := some 24, op := _, type := _, pos := _, after := _, guard := _ }) (v := ?_) rfl (by kernel_rfl) (by kernel_rfl) (by kernel_rfl) (fun _ _ _ h => h) (Or.inl ⟨by kernel_rfl, ?_⟩) (by assumption) ?_
  rotate_left
  · (intro w hSw; (try dsimp only at hSw); go_simp); all_goals (with_reducible rfl)
  try simp only [Act.put, List.setIfInBounds_toArray, List.set_cons_zero, List.set_cons_succ]
  refine wpAnyH_take (i := 6) (oi := { dst := some 25, op := _, type := _, pos := _, after := _, guard := _ }) (v := ?_) rfl (by kernel_rfl) (by kernel_rfl) (by kernel_rfl) (fun _ _ _ h => h) (Or.inl ⟨by kernel_rfl, ?_⟩) (by assumption) ?_
  rotate_left
  · (intro w hSw; (try dsimp only at hSw); go_simp); all_goals (with_reducible rfl)
  try simp only [Act.put, List.setIfInBounds_toArray, List.set_cons_zero, List.set_cons_succ]
  refine wpAnyH_take (i := 7) (oi := { dst := some 26, op := _, type := _, pos := _, after := _, guard := _ }) (v := ?_) rfl (by kernel_rfl) (by kernel_rfl) (by kernel_rfl) (fun _ _ _ h => h) (Or.inl ⟨by kernel_rfl, ?_⟩) (by assumption) ?_
  rotate_left
  · (intro w hSw; (try dsimp only at hSw); have j0 := cell_later hSw q0; have j1 := cell_later hSw q1; go_simp); all_goals (with_reducible rfl)
  try simp only [Act.put, List.setIfInBounds_toArray, List.set_cons_zero, List.set_cons_succ]
  refine wpAnyH_take (i := 8) (oi := { dst := some 27, op := _, type := _, pos := _, after := _, guard := _ }) (v := ?_) rfl (by kernel_rfl) (by kernel_rfl) (by kernel_rfl) (fun _ _ _ h => h) (Or.inl ⟨by kernel_rfl, ?_⟩) (by assumption) ?_
  rotate_left
  · (intro w hSw; (try dsimp only at hSw); go_simp); all_goals (with_reducible rfl)
  try simp only [Act.put, List.setIfInBounds_toArray, List.set_cons_zero, List.set_cons_succ]
  refine wpAnyH_ready (rs := [9]) (by kernel_rfl) (by simp) ?_
  refine (AllReadyH.cons (o := { dst := some 28, op := _, type := _, pos := _, after := _, guard := _ }) rfl (fun K hK => ?_) AllReadyH.nil)
  rw [if_pos (by kernel_rfl)]
  refine wp_call_go Tryz.func61 (by kernel_rfl) (by kernel_rfl) (xs := [.tmp 27]) (by rfl) (vs := [.string ⟨r.toArray⟩]) (HDR.out _ (HG.out.c.tabs.later hS0)) (by rfl) ?_
  rintro e w' ⟨rfl, hb⟩
  refine ⟨_, rfl, ?_⟩
  refine hK.out _ w' (hS0.trans (hb.mono hS0.size)) (fun hSe => ?_)
  clear hK K
  try simp only [Act.put, List.setIfInBounds_toArray, List.set_cons_zero, List.set_cons_succ]
  refine wpAnyH_take (i := 10) (oi := { dst := some 18, op := _, type := _, pos := _, after := _, guard := _ }) (v := ?_) rfl (by kernel_rfl) (by kernel_rfl) (by kernel_rfl) (fun _ _ _ h => h) (Or.inl ⟨by kernel_rfl, ?_⟩) (by assumption) ?_
  rotate_left
  · (intro w hSw; (try dsimp only at hSw); go_simp); all_goals (with_reducible rfl)
  try simp only [Act.put, List.setIfInBounds_toArray, List.set_cons_zero, List.set_cons_succ]
  refine wpAnyH_take (i := 11) (oi := { dst := some 29, op := _, type := _, pos := _, after := _, guard := _ }) (v := ?_) rfl (by kernel_rfl) (by kernel_rfl) (by kernel_rfl) (fun _ _ _ h => h) (Or.inl ⟨by kernel_rfl, ?_⟩) (by assumption) ?_
  rotate_left
  · (intro w hSw; (try dsimp only at hSw); go_simp); all_goals (with_reducible rfl)
  try simp only [Act.put, List.setIfInBounds_toArray, List.set_cons_zero, List.set_cons_succ]
  refine wpAnyH_take (i := 12) (oi := { dst := some 30, op := _, type := _, pos := _, after := _, guard := _ }) (v := ?_) rfl (by kernel_rfl) (by kernel_rfl) (by kernel_rfl) (fun _ _ _ h => h) (Or.inl ⟨by kernel_rfl, ?_⟩) (by assumption) ?_
  rotate_left
  · (intro w hSw; (try dsimp only at hSw); go_simp); all_goals (with_reducible rfl)
  try simp only [Act.put, List.setIfInBounds_toArray, List.set_cons_zero, List.set_cons_succ]
  refine wpAnyH_take (i := 13) (oi := { dst := some 3, op := _, type := _, pos := _, after := _, guard := _ }) (v := ?_) rfl (by kernel_rfl) (by kernel_rfl) (by kernel_rfl) (fun _ _ _ h => h) (Or.inl ⟨by kernel_rfl, ?_⟩) (by assumption) ?_
  rotate_left
  · (intro w hSw; (try dsimp only at hSw); go_simp); all_goals (with_reducible rfl)
  try simp only [Act.put, List.setIfInBounds_toArray, List.set_cons_zero, List.set_cons_succ]
  refine wpAnyH_take (i := 14) (oi := { dst := some 4, op := _, type := _, pos := _, after := _, guard := _ }) (v := ?_) rfl (by kernel_rfl) (by kernel_rfl) (by kernel_rfl) (fun _ _ _ h => h) (Or.inl ⟨by kernel_rfl, ?_⟩) (by assumption) ?_
  rotate_left
  · (intro w hSw; (try dsimp only at hSw); go_simp); all_goals (with_reducible rfl)
  try simp only [Act.put, List.setIfInBounds_toArray, List.set_cons_zero, List.set_cons_succ]
  refine wpAnyH_done (by kernel_rfl) ?_ _
  have B1 : Hid (Below w.heap.size w w') := hSe
  generalize w' = W1 at *
  clear hSe hS0 B0 HDR
  obtain ⟨sol, hsol⟩ : ∃ sol, (if r = [] then true else solidX r) = sol := ⟨_, rfl⟩
  have HSOL := Lib.hid hsol
  clear hsol
  go_upto_region 2 with (fail)
  go_cut [5] (fun s5 wx => s5 = .bool sol ∧ Hid (Below w.heap.size w wx))
  case first =>
    by_cases hc127 : 127 < (c : Int)
    · have HS : Hid (sol = true) := by
        show _ = _
        rw [← HSOL.out]
        cases hr : r with
        | nil => rfl
        | cons x y =>
          rw [if_neg (by simp)]
          have h1 := decode_head (b := x) (x := y)
          have h2 := HC.out
          rw [hr, if_neg (by simp)] at h2
          rw [h2, decide_eq_false (by omega)] at h1
          have h3 : ¬ x.toNat < 128 := of_decide_eq_false h1.symm
          unfold solidX
          have h4 : blankB x = false := by
            cases hb : blankB x with
            | false => rfl
            | true =>
              exfalso
              unfold blankB at hb
              simp only [Bool.or_eq_true, decide_eq_true_eq] at hb
              rcases hb with ((rfl | rfl) | rfl) | rfl <;> exact h3 (by decide)
          simp [h4]
      go_wp2_with fail
      go_meet
      case rel => exact ⟨by rw [HS.out], B1.out⟩
    · have hrne : r ≠ [] := fun e => by have := HC.out; rw [e, if_pos rfl] at this; omega
      obtain ⟨x, y, hxy⟩ : ∃ x y, r = x :: y := by cases r with | nil => exact absurd rfl hrne | cons x y => exact ⟨x, y, rfl⟩
      have hxc : x.toNat = c := by
        have h1 := decode_head (b := x) (x := y)
        have h2 := HC.out
        rw [hxy, if_neg (by simp)] at h2
        have h3 : x.toNat < 128 := by
          rw [h2, decide_eq_true (by omega)] at h1
          exact of_decide_eq_true h1.symm
        rw [decode_small (l := x :: y) (by simp) h3] at h2
        exact h2
      have HS : Hid (sol = !(decide (0 ≤ Lib.indexByte [32, 9, 10, 13] x))) := by
        show _ = _
        rw [← HSOL.out, if_neg hrne, blank_of, hxy]
        unfold solidX
        simp
      have HIB : Hid (∀ W, Calls Tryz.prog 28 #[.string ⟨#[32, 9, 10, 13]⟩, .int .u8 (c : Int)] W fun e w' => e = .returned (.int .i64 (Lib.indexByte [32, 9, 10, 13] x)) ∧ w' = W) := fun W => by
        have := Tryz.strings_IndexByte ⟨#[32, 9, 10, 13]⟩ (c : Int) W
        rw [← hxc] at this ⊢
        rwa [show ((x.toNat : Int).toNat.toUInt8) = x from by simp] at this
      generalize Lib.indexByte [32, 9, 10, 13] x = ix at *
      clear hrne hxy hxc
      by_cases hix : ix < 0
      · have HS2 : Hid (sol = true) := by show _ = _; rw [HS.out, decide_eq_false (by omega)]; rfl
        go_wp2_with fail
        refine (HIB.out _).mono ?_
        rintro e W2 ⟨rfl, rfl⟩
        go_wp2_with fail
        go_meet
        case rel => exact ⟨by rw [HS2.out], B1.out⟩
      · have HS2 : Hid (sol = false) := by show _ = _; rw [HS.out, decide_eq_true (by omega)]; rfl
        go_wp2_with fail
        refine (HIB.out _).mono ?_
        rintro e W2 ⟨rfl, rfl⟩
        go_wp2_with fail
        go_meet
        case rel => exact ⟨by rw [HS2.out, decide_eq_false (show ¬ ix < 0 by omega)], B1.out⟩
  case rest =>
    obtain ⟨rfl, B2⟩ := hcut
    generalize wc = W2 at *
    have HQ0 := Lib.hid q0
    have HQ1 := Lib.hid q1
    have HQ2 := Lib.hid q2
    have HK0 : Hid (w.cell? ⟨g, 0, none⟩ = some (.string (Bs.str o.name))) := cell_at HBX.out rfl
    have HK2 : Hid (w.cell? ⟨g, 2, none⟩ = some (.slice ak o.kids.length ck)) := cell_at HBX.out rfl
    have HK5 : Hid (w.cell? ⟨g, 5, none⟩ = some (.bool o.solid)) := cell_at HBX.out rfl
    have HFA := Lib.hid (rfail_later HXX.out HR.out HH.out)
    have HFZ := Lib.hid (rfail_zero HR.out)
    have HAH := Lib.hid (rahead_later HR.out)
    have hrl := xt_len HXX.out.2.2
    clear q0 q1 q2 q3 c1 B1
    by_cases hr : r = []
    · have hn0 : (n : Int) = 0 := by have := HN.out; rw [if_pos hr] at this; omega
      have HE : Hid (stepL o ps r = .error (55, r.length)) := by show _ = _; rw [hr]; rfl
      have q0 := cell_later B2.out HQ0.out
      have q1 := cell_later B2.out HQ1.out
      have HF := Lib.hid (HFA.out W2 B2.out)
      clear hr
      go_wp2_with fail
      refine (HF.out).mono ?_
      rintro e WF ⟨rfl, h1, m1⟩
      have H1 := Lib.hid h1
      have M1 := Lib.hid ((From.below (b := b) (B := B) B2.out).trans (From.mine m1))
      clear h1 m1
      go_wp2_with fail
      go_end0
      rw [HE.out]
      exact ⟨rfl, M1.out, _, H1.out⟩
    · obtain ⟨b0, x, rfl⟩ : ∃ b0 x, r = b0 :: x := by cases r with | nil => exact absurd rfl hr | cons b0 x => exact ⟨b0, x, rfl⟩
      have hxl : (b0 :: x).length = S.size - a0 := hrl
      have HCD : Hid (decodeL (b0 :: x) = (c, n)) := by
        have h1 := HC.out
        have h2 := HN.out
        rw [if_neg (by simp)] at h1 h2
        show _ = _
        rw [← h1, ← h2]
      have HSL : Hid (sol = !(blankB b0)) := by
        have h1 := HSOL.out
        rw [if_neg (by simp)] at h1
        show _ = _
        rw [← h1]
        simp [solidX]
      have hw1 := decodeL_width (b0 :: x)
      have hn1 : ¬ (n : Int) = 0 := by rw [HCD.out] at hw1; simp only at hw1; omega
      simp only [List.length_cons] at hxl
      clear hr hrl HC HN HSOL hw1
      by_cases h60 : b0 = 60
      · subst h60
        have HA60 : Hid (∀ W, Below w.heap.size w W → Calls Tryz.prog 26 #[.pointer (some ⟨b, 0, none⟩), .string ⟨#[60]⟩] W fun e w' => e = .returned (.bool true) ∧ Below W.heap.size W w') := fun W hb => by
          have h1 := HAH.out W hb [60]
          rw [show ([60] : Bs).isPrefixOf (60 :: x) = true from rfl] at h1
          exact h1
        cases x with
        | nil =>
          have hxz : (a0 : Int) + 1 = (S.size : Int) := by simp only [List.length_nil] at hxl; omega
          have hwr : IntKind.i64.wrap (S.size : Int) = (S.size : Int) := by simp [IntKind.wrap_i64, wrap64]; omega
          have HE : Hid (stepL o ps [60] = .error (55, 0)) := by show _ = _; rfl
          go_upto_region 8 with (fail)
          refine wp_region_held_drew (S := (fun W : World => Below w.heap.size w W)) (by kernel_rfl) (Below.drew B2.out) (fun hS0 => ?_)
          refine wpAnyH_take (i := 0) (oi := { dst := some 72, op := _, type := _, pos := _, after := _, guard := _ }) (v := ?_) rfl (by kernel_rfl) (by kernel_rfl) (by kernel_rfl) (fun _ _ _ h => h) (Or.inl ⟨by kernel_rfl, ?_⟩) (by assumption) ?_
          rotate_left
          · (intro w hSw; (try dsimp only at hSw); go_simp); all_goals (with_reducible rfl)
          try simp only [Act.put, List.setIfInBounds_toArray, List.set_cons_zero, List.set_cons_succ]
          refine wpAnyH_ready (rs := [1]) (by kernel_rfl) (by simp) ?_
          refine (AllReadyH.cons (o := { dst := some 73, op := _, type := _, pos := _, after := _, guard := _ }) rfl (fun K hK => ?_) AllReadyH.nil)
          rw [if_pos (by kernel_rfl)]
          refine wp_call_go Tryz.func26 (by kernel_rfl) (by kernel_rfl) (xs := [.tmp 72, .const (.string ⟨#[60]⟩)]) (by rfl) (vs := [.pointer (some ⟨b, 0, none⟩), .string ⟨#[60]⟩]) (HA60.out _ hS0) (by rfl) ?_
          rintro e w' ⟨rfl, hb⟩
          refine ⟨_, rfl, ?_⟩
          refine hK.out _ w' (hS0.trans (hb.mono hS0.size)) (fun hSe => ?_)
          clear hK K
          try simp only [Act.put, List.setIfInBounds_toArray, List.set_cons_zero, List.set_cons_succ]
          refine wpAnyH_take (i := 2) (oi := { dst := some 74, op := _, type := _, pos := _, after := _, guard := _ }) (v := ?_) rfl (by kernel_rfl) (by kernel_rfl) (by kernel_rfl) (fun _ _ _ h => h) (Or.inl ⟨by kernel_rfl, ?_⟩) (by assumption) ?_
          rotate_left
          · (intro w hSw; (try dsimp only at hSw); go_simp); all_goals (with_reducible rfl)
          try simp only [Act.put, List.setIfInBounds_toArray, List.set_cons_zero, List.set_cons_succ]
          refine wpAnyH_take (i := 3) (oi := { dst := some 75, op := _, type := _, pos := _, after := _, guard := _ }) (v := ?_) rfl (by kernel_rfl) (by kernel_rfl) (by kernel_rfl) (fun _ _ _ h => h) (Or.inl ⟨by kernel_rfl, ?_⟩) (by assumption) ?_
          rotate_left
          · (intro w hSw; (try dsimp only at hSw); go_simp); all_goals (with_reducible rfl)
          try simp only [Act.put, List.setIfInBounds_toArray, List.set_cons_zero, List.set_cons_succ]
          refine wpAnyH_take (i := 4) (oi := { dst := some 76, op := _, type := _, pos := _, after := _, guard := _ }) (v := ?_) rfl (by kernel_rfl) (by kernel_rfl) (by kernel_rfl) (fun _ _ _ h => h) (Or.inl ⟨by kernel_rfl, ?_⟩) (by assumption) ?_
          rotate_left
          · (intro w hSw; (try dsimp only at hSw); go_simp); all_goals (with_reducible rfl)
          try simp only [Act.put, List.setIfInBounds_toArray, List.set_cons_zero, List.set_cons_succ]
          refine wpAnyH_take (i := 5) (oi := { dst := some 77, op := _, type := _, pos := _, after := _, guard := _ }) (v := ?_) rfl (by kernel_rfl) (by kernel_rfl) (by kernel_rfl) (fun _ _ _ h => h) (Or.inl ⟨by kernel_rfl, ?_⟩) (by assumption) ?_
          rotate_left
          · (intro w hSw; (try dsimp only at hSw); go_simp); all_goals (with_reducible rfl)
          try simp only [Act.put, List.setIfInBounds_toArray, List.set_cons_zero, List.set_cons_succ]
          refine wpAnyH_take (i := 6) (oi := { dst := some 78, op := _, type := _, pos := _, after := _, guard := _ }) (v := ?_) rfl (by kernel_rfl) (by kernel_rfl) (by kernel_rfl) (fun _ _ _ h => h) (Or.inl ⟨by kernel_rfl, ?_⟩) (by assumption) ?_
          rotate_left
          · (intro w hSw; (try dsimp only at hSw); have j0 := cell_later hSw HQ0.out; have j1 := cell_later hSw HQ1.out; go_simp); all_goals (with_reducible rfl)
          try simp only [Act.put, List.setIfInBounds_toArray, List.set_cons_zero, List.set_cons_succ]
          refine wpAnyH_take (i := 7) (oi := { dst := some 79, op := _, type := _, pos := _, after := _, guard := _ }) (v := ?_) rfl (by kernel_rfl) (by kernel_rfl) (by kernel_rfl) (fun _ _ _ h => h) (Or.inl ⟨by kernel_rfl, ?_⟩) (by assumption) ?_
          rotate_left
          · (intro w hSw; (try dsimp only at hSw); go_simp); all_goals (with_reducible rfl)
          try simp only [Act.put, List.setIfInBounds_toArray, List.set_cons_zero, List.set_cons_succ]
          refine wpAnyH_take (i := 8) (oi := { dst := some 80, op := _, type := _, pos := _, after := _, guard := _ }) (v := ?_) rfl (by kernel_rfl) (by kernel_rfl) (by kernel_rfl) (fun _ _ _ h => h) (Or.inl ⟨by kernel_rfl, ?_⟩) (by assumption) ?_
          rotate_left
          · (intro w hSw; (try dsimp only at hSw); go_simp); all_goals (with_reducible rfl)
          try simp only [Act.put, List.setIfInBounds_toArray, List.set_cons_zero, List.set_cons_succ]
          refine wpAnyH_take (i := 9) (oi := { dst := some 81, op := _, type := _, pos := _, after := _, guard := _ }) (v := ?_) rfl (by kernel_rfl) (by kernel_rfl) (by kernel_rfl) (fun _ _ _ h => h) (Or.inl ⟨by kernel_rfl, ?_⟩) (by assumption) ?_
          rotate_left
          · (intro w hSw; (try dsimp only at hSw); go_simp); all_goals (with_reducible rfl)
          try simp only [Act.put, List.setIfInBounds_toArray, List.set_cons_zero, List.set_cons_succ]
          refine wpAnyH_take (i := 10) (oi := { dst := some 82, op := _, type := _, pos := _, after := _, guard := _ }) (v := ?_) rfl (by kernel_rfl) (by kernel_rfl) (by kernel_rfl) (fun _ _ _ h => h) (Or.inl ⟨by kernel_rfl, ?_⟩) (by assumption) ?_
          rotate_left
          · (intro w hSw; (try dsimp only at hSw); go_simp); all_goals (with_reducible rfl)
          try simp only [Act.put, List.setIfInBounds_toArray, List.set_cons_zero, List.set_cons_succ]
          refine wpAnyH_take (i := 11) (oi := { dst := some 83, op := _, type := _, pos := _, after := _, guard := _ }) (v := ?_) rfl (by kernel_rfl) (by kernel_rfl) (by kernel_rfl) (fun _ _ _ h => h) (Or.inl ⟨by kernel_rfl, ?_⟩) (by assumption) ?_
          rotate_left
          · (intro w hSw; (try dsimp only at hSw); have j0 := cell_later hSw HQ0.out; have j1 := cell_later hSw HQ1.out; go_simp); all_goals (with_reducible rfl)
          try simp only [Act.put, List.setIfInBounds_toArray, List.set_cons_zero, List.set_cons_succ]
          refine wpAnyH_take (i := 12) (oi := { dst := some 84, op := _, type := _, pos := _, after := _, guard := _ }) (v := ?_) rfl (by kernel_rfl) (by kernel_rfl) (by kernel_rfl) (fun _ _ _ h => h) (Or.inl ⟨by kernel_rfl, ?_⟩) (by assumption) ?_
          rotate_left
          · (intro w hSw; (try dsimp only at hSw); go_simp); all_goals (with_reducible rfl)
          try simp only [Act.put, List.setIfInBounds_toArray, List.set_cons_zero, List.set_cons_succ]
          refine wpAnyH_take (i := 13) (oi := { dst := some 85, op := _, type := _, pos := _, after := _, guard := _ }) (v := ?_) rfl (by kernel_rfl) (by kernel_rfl) (by kernel_rfl) (fun _ _ _ h => h) (Or.inl ⟨by kernel_rfl, ?_⟩) (by assumption) ?_
          rotate_left
          · (intro w hSw; (try dsimp only at hSw); go_simp); all_goals (with_reducible rfl)
          try simp only [Act.put, List.setIfInBounds_toArray, List.set_cons_zero, List.set_cons_succ]
          refine wpAnyH_take (i := 14) (oi := { dst := some 86, op := _, type := _, pos := _, after := _, guard := _ }) (v := ?_) rfl (by kernel_rfl) (by kernel_rfl) (by kernel_rfl) (fun _ _ _ h => h) (Or.inl ⟨by kernel_rfl, ?_⟩) (by assumption) ?_
          rotate_left
          · (intro w hSw; (try dsimp only at hSw); go_simp); all_goals (with_reducible rfl)
          try simp only [Act.put, List.setIfInBounds_toArray, List.set_cons_zero, List.set_cons_succ]
          refine wpAnyH_take (i := 15) (oi := { dst := some 71, op := _, type := _, pos := _, after := _, guard := _ }) (v := ?_) rfl (by kernel_rfl) (by kernel_rfl) (by kernel_rfl) (fun _ _ _ h => h) (Or.inl ⟨by kernel_rfl, ?_⟩) (by assumption) ?_
          rotate_left
          · (intro w hSw; (try dsimp only at hSw); go_simp); all_goals (with_reducible rfl)
          try simp only [Act.put, List.setIfInBounds_toArray, List.set_cons_zero, List.set_cons_succ]
          refine wpAnyH_done (by kernel_rfl) ?_ _
          have B3 : Hid (Below w.heap.size w w') := hSe
          generalize w' = W3 at *
          clear hSe hS0 hwr
          have q0 := cell_later B3.out HQ0.out
          have HF := Lib.hid (HFZ.out W3 B3.out)
          go_wp2_with fail
          refine (HF.out).mono ?_
          rintro e WF ⟨rfl, h1, m1⟩
          have H1 := Lib.hid h1
          have M1 := Lib.hid ((From.below (b := b) (B := B) B3.out).trans (From.mine m1))
          clear h1 m1
          go_wp2_with fail
          go_end0
          rw [HE.out]
          exact ⟨rfl, M1.out, _, H1.out⟩
        | cons y x2 =>
          have hxz : ¬ (a0 : Int) + 1 = (S.size : Int) := by simp only [List.length_cons] at hxl; omega
          have hwr : IntKind.i64.wrap ((a0 : Int) + 1) = (a0 : Int) + 1 := by simp [IntKind.wrap_i64, wrap64]; omega
          have hxz2 : ((a0 : Int) + 1 == (S.size : Int)) = false := beq_eq_false_iff_ne.2 hxz
          go_upto_region 8 with (fail)
          refine wp_region_held_drew (S := (fun W : World => Below w.heap.size w W)) (by kernel_rfl) (Below.drew B2.out) (fun hS0 => ?_)
          refine wpAnyH_take (i := 0) (oi := { dst := some 72, op := _, type := _, pos := _, after := _, guard := _ }) (v := ?_) rfl (by kernel_rfl) (by kernel_rfl) (by kernel_rfl) (fun _ _ _ h => h) (Or.inl ⟨by kernel_rfl, ?_⟩) (by assumption) ?_
          rotate_left
          · (intro w hSw; (try dsimp only at hSw); go_simp); all_goals (with_reducible rfl)
          try simp only [Act.put, List.setIfInBounds_toArray, List.set_cons_zero, List.set_cons_succ]
          refine wpAnyH_ready (rs := [1]) (by kernel_rfl) (by simp) ?_
          refine (AllReadyH.cons (o := { dst := some 73, op := _, type := _, pos := _, after := _, guard := _ }) rfl (fun K hK => ?_) AllReadyH.nil)
          rw [if_pos (by kernel_rfl)]
          refine wp_call_go Tryz.func26 (by kernel_rfl) (by kernel_rfl) (xs := [.tmp 72, .const (.string ⟨#[60]⟩)]) (by rfl) (vs := [.pointer (some ⟨b, 0, none⟩), .string ⟨#[60]⟩]) (HA60.out _ hS0) (by rfl) ?_
          rintro e w' ⟨rfl, hb⟩
          refine ⟨_, rfl, ?_⟩
          refine hK.out _ w' (hS0.trans (hb.mono hS0.size)) (fun hSe => ?_)
          clear hK K
          try simp only [Act.put, List.setIfInBounds_toArray, List.set_cons_zero, List.set_cons_succ]
          refine wpAnyH_take (i := 2) (oi := { dst := some 74, op := _, type := _, pos := _, after := _, guard := _ }) (v := ?_) rfl (by kernel_rfl) (by kernel_rfl) (by kernel_rfl) (fun _ _ _ h => h) (Or.inl ⟨by kernel_rfl, ?_⟩) (by assumption) ?_
          rotate_left
          · (intro w hSw; (try dsimp only at hSw); go_simp); all_goals (with_reducible rfl)
          try simp only [Act.put, List.setIfInBounds_toArray, List.set_cons_zero, List.set_cons_succ]
          refine wpAnyH_take (i := 3) (oi := { dst := some 75, op := _, type := _, pos := _, after := _, guard := _ }) (v := ?_) rfl (by kernel_rfl) (by kernel_rfl) (by kernel_rfl) (fun _ _ _ h => h) (Or.inl ⟨by kernel_rfl, ?_⟩) (by assumption) ?_
          rotate_left
          · (intro w hSw; (try dsimp only at hSw); go_simp); all_goals (with_reducible rfl)
          try simp only [Act.put, List.setIfInBounds_toArray, List.set_cons_zero, List.set_cons_succ]
          refine wpAnyH_take (i := 4) (oi := { dst := some 76, op := _, type := _, pos := _, after := _, guard := _ }) (v := ?_) rfl (by kernel_rfl) (by kernel_rfl) (by kernel_rfl) (fun _ _ _ h => h) (Or.inl ⟨by kernel_rfl, ?_⟩) (by assumption) ?_
          rotate_left
          · (intro w hSw; (try dsimp only at hSw); go_simp); all_goals (with_reducible rfl)
          try simp only [Act.put, List.setIfInBounds_toArray, List.set_cons_zero, List.set_cons_succ]
          refine wpAnyH_take (i := 5) (oi := { dst := some 77, op := _, type := _, pos := _, after := _, guard := _ }) (v := ?_) rfl (by kernel_rfl) (by kernel_rfl) (by kernel_rfl) (fun _ _ _ h => h) (Or.inl ⟨by kernel_rfl, ?_⟩) (by assumption) ?_
          rotate_left
          · (intro w hSw; (try dsimp only at hSw); go_simp); all_goals (with_reducible rfl)
          try simp only [Act.put, List.setIfInBounds_toArray, List.set_cons_zero, List.set_cons_succ]
          refine wpAnyH_take (i := 6) (oi := { dst := some 78, op := _, type := _, pos := _, after := _, guard := _ }) (v := ?_) rfl (by kernel_rfl) (by kernel_rfl) (by kernel_rfl) (fun _ _ _ h => h) (Or.inl ⟨by kernel_rfl, ?_⟩) (by assumption) ?_
          rotate_left
          · (intro w hSw; (try dsimp only at hSw); have j0 := cell_later hSw HQ0.out; have j1 := cell_later hSw HQ1.out; go_simp); all_goals (with_reducible rfl)
          try simp only [Act.put, List.setIfInBounds_toArray, List.set_cons_zero, List.set_cons_succ]
          refine wpAnyH_take (i := 7) (oi := { dst := some 79, op := _, type := _, pos := _, after := _, guard := _ }) (v := ?_) rfl (by kernel_rfl) (by kernel_rfl) (by kernel_rfl) (fun _ _ _ h => h) (Or.inl ⟨by kernel_rfl, ?_⟩) (by assumption) ?_
          rotate_left
          · (intro w hSw; (try dsimp only at hSw); go_simp); all_goals (with_reducible rfl)
          try simp only [Act.put, List.setIfInBounds_toArray, List.set_cons_zero, List.set_cons_succ]
          refine wpAnyH_take (i := 8) (oi := { dst := some 80, op := _, type := _, pos := _, after := _, guard := _ }) (v := ?_) rfl (by kernel_rfl) (by kernel_rfl) (by kernel_rfl) (fun _ _ _ h => h) (Or.inl ⟨by kernel_rfl, ?_⟩) (by assumption) ?_
          rotate_left
          · (intro w hSw; (try dsimp only at hSw); go_simp); all_goals (with_reducible rfl)
          try simp only [Act.put, List.setIfInBounds_toArray, List.set_cons_zero, List.set_cons_succ]
          refine wpAnyH_take (i := 9) (oi := { dst := some 81, op := _, type := _, pos := _, after := _, guard := _ }) (v := ?_) rfl (by kernel_rfl) (by kernel_rfl) (by kernel_rfl) (fun _ _ _ h => h) (Or.inl ⟨by kernel_rfl, ?_⟩) (by assumption) ?_
          rotate_left
          · (intro w hSw; (try dsimp only at hSw); go_simp); all_goals (with_reducible rfl)
          try simp only [Act.put, List.setIfInBounds_toArray, List.set_cons_zero, List.set_cons_succ]
          refine wpAnyH_take (i := 10) (oi := { dst := some 82, op := _, type := _, pos := _, after := _, guard := _ }) (v := ?_) rfl (by kernel_rfl) (by kernel_rfl) (by kernel_rfl) (fun _ _ _ h => h) (Or.inl ⟨by kernel_rfl, ?_⟩) (by assumption) ?_
          rotate_left
          · (intro w hSw; (try dsimp only at hSw); go_simp); all_goals (with_reducible rfl)
          try simp only [Act.put, List.setIfInBounds_toArray, List.set_cons_zero, List.set_cons_succ]
          refine wpAnyH_take (i := 11) (oi := { dst := some 83, op := _, type := _, pos := _, after := _, guard := _ }) (v := ?_) rfl (by kernel_rfl) (by kernel_rfl) (by kernel_rfl) (fun _ _ _ h => h) (Or.inl ⟨by kernel_rfl, ?_⟩) (by assumption) ?_
          rotate_left
          · (intro w hSw; (try dsimp only at hSw); have j0 := cell_later hSw HQ0.out; have j1 := cell_later hSw HQ1.out; go_simp); all_goals (with_reducible rfl)
          try simp only [Act.put, List.setIfInBounds_toArray, List.set_cons_zero, List.set_cons_succ]
          refine wpAnyH_take (i := 12) (oi := { dst := some 84, op := _, type := _, pos := _, after := _, guard := _ }) (v := ?_) rfl (by kernel_rfl) (by kernel_rfl) (by kernel_rfl) (fun _ _ _ h => h) (Or.inl ⟨by kernel_rfl, ?_⟩) (by assumption) ?_
          rotate_left
          · (intro w hSw; (try dsimp only at hSw); go_simp); all_goals (with_reducible rfl)
          try simp only [Act.put, List.setIfInBounds_toArray, List.set_cons_zero, List.set_cons_succ]
          refine wpAnyH_take (i := 13) (oi := { dst := some 85, op := _, type := _, pos := _, after := _, guard := _ }) (v := ?_) rfl (by kernel_rfl) (by kernel_rfl) (by kernel_rfl) (fun _ _ _ h => h) (Or.inl ⟨by kernel_rfl, ?_⟩) (by assumption) ?_
          rotate_left
          · (intro w hSw; (try dsimp only at hSw); go_simp); all_goals (with_reducible rfl)
          try simp only [Act.put, List.setIfInBounds_toArray, List.set_cons_zero, List.set_cons_succ]
          refine wpAnyH_take (i := 14) (oi := { dst := some 86, op := _, type := _, pos := _, after := _, guard := _ }) (v := ?_) rfl (by kernel_rfl) (by kernel_rfl) (by kernel_rfl) (fun _ _ _ h => h) (Or.inl ⟨by kernel_rfl, ?_⟩) (by assumption) ?_
          rotate_left
          · (intro w hSw; (try dsimp only at hSw); go_simp); all_goals (with_reducible rfl)
          try simp only [Act.put, List.setIfInBounds_toArray, List.set_cons_zero, List.set_cons_succ]
          refine wpAnyH_take (i := 15) (oi := { dst := some 71, op := _, type := _, pos := _, after := _, guard := _ }) (v := ?_) rfl (by kernel_rfl) (by kernel_rfl) (by kernel_rfl) (fun _ _ _ h => h) (Or.inl ⟨by kernel_rfl, ?_⟩) (by assumption) ?_
          rotate_left
          · (intro w hSw; (try dsimp only at hSw); go_simp); all_goals (with_reducible rfl)
          try simp only [Act.put, List.setIfInBounds_toArray, List.set_cons_zero, List.set_cons_succ]
          refine wpAnyH_done (by kernel_rfl) ?_ _
          have B3 : Hid (Below w.heap.size w w') := hSe
          generalize w' = W3 at *
          clear hSe hS0 hwr
          by_cases h47 : y = 47
          · subst h47
            have HA67 : Hid (∀ W, Below w.heap.size w W → Calls Tryz.prog 26 #[.pointer (some ⟨b, 0, none⟩), .string ⟨#[60, 47]⟩] W fun e w' => e = .returned (.bool true) ∧ Below W.heap.size W w') := fun W hb => by
              have h1 := HAH.out W hb [60, 47]
              rw [show ([60, 47] : Bs).isPrefixOf (60 :: 47 :: x2) = true from rfl] at h1
              exact h1
            have HE := Lib.hid (step_lt_end o ps x2)
            go_wp2_with fail
            refine (HA67.out _ B3.out).mono ?_
            rintro e W4 ⟨rfl, hb⟩
            have B4 := Lib.hid (B3.out.trans (hb.mono B3.out.size))
            clear hb
            have hx4 := (B4.out.block b HR.out.lt).trans HH.out
            have H4 := Lib.hid (HR.out.later B4.out)
            have P4 := Lib.hid (HP.out.below B4.out)
            have X4 := Lib.hid ((B4.out.block g hgw).trans HBX.out)
            have f1 : W4.frozen? ⟨b, 1, none⟩ = false := free_of_heap hx4
            have q1 := cell_later B4.out HQ1.out
            obtain ⟨W5, hW5⟩ : ∃ W5, W4.setCell ⟨b, 1, none⟩ (.int .i64 ((a0 : Int) + 2)) = W5 := ⟨_, rfl⟩
            have m5 : Mine b W4 W5 := by rw [← hW5]; exact mine_set _ _ _ _
            have h5 : RdAt W5 b S x2 (.slice (some ⟨pb, 0, none⟩) (N + 1) cv) := by
              rw [← hW5]
              exact ⟨a0 + 2, by simp only [List.length_cons] at hxl; omega, hs, by rw [← List.drop_drop, HXX.out.2.2]; rfl, at_set hx4 (a0 + 2)⟩
            have H5 := Lib.hid h5
            have P5 := Lib.hid (P4.out.mine H4.out m5)
            have k0 : W5.cell? ⟨g, 0, none⟩ = some (.string ⟨o.name.toArray⟩) := cell_at (heap_mine X4.out m5 (by omega)) rfl
            have F5 := Lib.hid ((From.below (b := b) (B := B) B4.out).trans (From.mine m5))
            have HWN := Lib.hid (rwant_any h5 o.name (by omega))
            clear hx4 m5 h5 P4 H4 X4 HA60 HA67 HFA HFZ HAH
            go_upto_region 12 with (fail)
            (try rw [hW5])
            clear hW5 f1 q1
            cases hwn : wantL o.name x2 with
            | error e =>
              rw [hwn] at HWN
              have HE2 : Hid (stepL o ps (60 :: 47 :: x2) = .error e) := by show _ = _; rw [HE.out, hwn]; rfl
              clear hwn
              go_wp2_with fail
              refine (HWN.out).mono ?_
              rintro e' W6 ⟨rfl, h6, m6⟩
              have h6' : RdBad W6 b S e.1 e.2 (.slice (some ⟨pb, 0, none⟩) (N + 1) cv) := h6
              obtain ⟨q, q2⟩ := RdBad.bad h6'
              have H6 := Lib.hid h6'
              have F6 := Lib.hid (F5.out.trans (From.mine m6))
              have HWB := Lib.hid (rwant_bad h6' [62] (by decide))
              have HEB := Lib.hid (end_bad h6')
              clear h6 h6' m6 k0
              go_wp2_with fail
              refine (HWB.out).mono ?_
              rintro e' W7 ⟨rfl, rfl⟩
              go_wp2_with fail
              refine (HEB.out).mono ?_
              rintro e' W8 ⟨rfl, rfl⟩
              go_wp2_with fail
              go_end0
              rw [HE2.out]
              exact ⟨rfl, F6.out, _, H6.out⟩
            | ok r1 =>
              rw [hwn] at HWN
              have HWK := Lib.hid hwn
              clear hwn
              go_wp2_with fail
              refine (HWN.out).mono ?_
              rintro e' W6 ⟨rfl, h6, m6⟩
              have h6' : RdAt W6 b S r1 (.slice (some ⟨pb, 0, none⟩) (N + 1) cv) := h6
              have q2 := RdAt.bad h6'
              have H6 := Lib.hid h6'
              have P6 := Lib.hid (P5.out.mine H5.out m6)
              have F6 := Lib.hid (F5.out.trans (From.mine m6))
              have HBL := Lib.hid (rblanks_any h6')
              clear h6 h6' m6 k0 F5 P5 H5 HWN
              go_wp2_with fail
              refine (HBL.out).mono ?_
              rintro e' W7 ⟨rfl, h7, m7⟩
              have H7 := Lib.hid h7
              have P7 := Lib.hid (P6.out.mine H6.out m7)
              have F7 := Lib.hid (F6.out.trans (From.mine m7))
              have HW7 := Lib.hid (rwant_any h7 [62] (by decide))
              clear h7 m7 q2 F6 P6 H6 HBL
              cases hw7 : wantL [62] (skipL r1) with
              | error e =>
                rw [hw7] at HW7
                have HE2 : Hid (stepL o ps (60 :: 47 :: x2) = .error e) := by show _ = _; rw [HE.out, ok_bind HWK.out, hw7]; rfl
                clear hw7
                go_wp2_with fail
                refine (HW7.out).mono ?_
                rintro e' W8 ⟨rfl, h8, m8⟩
                have h8' : RdBad W8 b S e.1 e.2 (.slice (some ⟨pb, 0, none⟩) (N + 1) cv) := h8
                have H8 := Lib.hid h8'
                have F8 := Lib.hid (F7.out.trans (From.mine m8))
                have HEB := Lib.hid (end_bad h8')
                clear h8 h8' m8
                go_wp2_with fail
                refine (HEB.out).mono ?_
                rintro e' W9 ⟨rfl, rfl⟩
                go_wp2_with fail
                go_end0
                rw [HE2.out]
                exact ⟨rfl, F8.out, _, H8.out⟩
              | ok r2 =>
                rw [hw7] at HW7
                have HE2 : Hid (stepL o ps (60 :: 47 :: x2) = .ok (endL (o :: ps), r2)) := by show _ = _; rw [HE.out, ok_bind HWK.out, ok_bind hw7]
                clear hw7
                go_wp2_with fail
                refine (HW7.out).mono ?_
                rintro e' W8 ⟨rfl, h8, m8⟩
                have h8' : RdAt W8 b S r2 (.slice (some ⟨pb, 0, none⟩) (N + 1) cv) := h8
                have F8 := Lib.hid (F7.out.trans (From.mine m8))
                have HEB := Lib.hid (end_any ⟨_, _, h8', P7.out.mine H7.out m8⟩ (by simp) HSO.out (by have := HSW.out; omega))
                clear h8 h8' m8
                go_wp2_with fail
                refine (HEB.out).mono ?_
                rintro e' W9 ⟨rfl, f9, h9⟩
                have F9 := Lib.hid (F8.out.trans f9)
                have H9 := Lib.hid h9
                clear f9 h9
                go_wp2_with fail
                go_end0
                rw [HE2.out]
                exact ⟨rfl, F9.out, H9.out⟩
          · have HA67 : Hid (∀ W, Below w.heap.size w W → Calls Tryz.prog 26 #[.pointer (some ⟨b, 0, none⟩), .string ⟨#[60, 47]⟩] W fun e w' => e = .returned (.bool false) ∧ Below W.heap.size W w') := fun W hb => by
              have h1 := HAH.out W hb [60, 47]
              rw [show ([60, 47] : Bs).isPrefixOf (60 :: y :: x2) = false from by simp [List.isPrefixOf, Ne.symm h47]] at h1
              exact h1
            have HE := Lib.hid (step_lt_beg o ps (x := y :: x2) (by simp) (by simpa using h47))
            clear h47
            go_wp2_with fail
            refine (HA67.out _ B3.out).mono ?_
            rintro e W4 ⟨rfl, hb⟩
            have B4 := Lib.hid (B3.out.trans (hb.mono B3.out.size))
            clear hb
            go_wp2_with fail
            refine (HA60.out _ B4.out).mono ?_
            rintro e W5 ⟨rfl, hb⟩
            have B5 := Lib.hid (B4.out.trans (hb.mono B4.out.size))
            clear hb
            have k5 := cell_later B5.out HK5.out
            obtain ⟨os, hos⟩ : ∃ os, o.solid = os := ⟨_, rfl⟩
            rw [hos] at k5
            cases os with
            | true =>
              have HE2 : Hid (stepL o ps (60 :: y :: x2) = .error (55, (60 :: y :: x2).length)) := by show _ = _; rw [HE.out]; unfold begS; rw [hos]; rfl
              have q1 := cell_later B5.out HQ1.out
              have HF := Lib.hid (HFA.out W5 B5.out)
              have HE := HE2
              clear hos
              go_wp2_with fail
              refine (HF.out).mono ?_
              rintro e WF ⟨rfl, h1, m1⟩
              have H1 := Lib.hid h1
              have M1 := Lib.hid ((From.below (b := b) (B := B) B5.out).trans (From.mine m1))
              clear h1 m1
              go_wp2_with fail
              go_end0
              rw [HE.out]
              exact ⟨rfl, M1.out, _, H1.out⟩
            | false =>
              have HE2 : Hid (stepL o ps (60 :: y :: x2) = (beginL (ps.length + 1) (60 :: y :: x2) >>= fun y => (.ok (if y.2.1 then opn y.1 :: o :: ps else endL (opn y.1 :: o :: ps), y.2.2) : R (List Opn × Bs)))) := by show _ = _; rw [HE.out]; unfold begS; rw [hos]; rfl
              clear hos
              go_wp2_with fail
              refine (HA60.out _ B5.out).mono ?_
              rintro e W6 ⟨rfl, hb⟩
              have B6 := Lib.hid (B5.out.trans (hb.mono B5.out.size))
              clear hb
              have HBG := Lib.hid (rbegin_any (w := W6) (b := b) (S := S) (r := 60 :: y :: x2) (ps := o :: ps) ⟨_, _, HR.out.later B6.out, HP.out.below B6.out⟩ hps20)
              clear HA60 HA67 HFA HFZ HAH k5
              cases hbg2 : beginL (ps.length + 1) (60 :: y :: x2) with
              | error e =>
                have HE3 : Hid (stepL o ps (60 :: y :: x2) = .error e) := by show _ = _; rw [HE2.out, hbg2]; rfl
                rw [show beginL (o :: ps).length (60 :: y :: x2) = .error e from hbg2] at HBG
                clear hbg2
                go_wp2_with fail
                refine (HBG.out).mono ?_
                rintro e' W7 ⟨f7, rfl, pv7, h7⟩
                obtain ⟨q, q2⟩ := RdBad.bad h7
                have H7 := Lib.hid h7
                have F7 := Lib.hid ((From.below (b := b) (B := B) B6.out).trans f7)
                clear h7 f7
                go_wp2_with fail
                go_end0
                rw [HE3.out]
                exact ⟨rfl, F7.out, _, H7.out⟩
              | ok z =>
                obtain ⟨n1, m, r1⟩ := z
                have HE3 : Hid (stepL o ps (60 :: y :: x2) = .ok (if m then opn n1 :: o :: ps else endL (opn n1 :: o :: ps), r1)) := by show _ = _; rw [HE2.out, ok_bind hbg2]
                rw [show beginL (o :: ps).length (60 :: y :: x2) = .ok (n1, m, r1) from hbg2] at HBG
                have HBO := Lib.hid (begin_ok hbg2)
                clear hbg2
                cases m with
                | true =>
                  go_wp2_with fail
                  refine (HBG.out).mono ?_
                  rintro e' W7 ⟨f7, rfl, h7⟩
                  have H7 := Lib.hid h7
                  have F7 := Lib.hid ((From.below (b := b) (B := B) B6.out).trans f7)
                  clear h7 f7
                  go_wp2_with fail
                  go_end0
                  rw [HE3.out]
                  exact ⟨rfl, F7.out, H7.out⟩
                | false =>
                  go_wp2_with fail
                  refine (HBG.out).mono ?_
                  rintro e' W7 ⟨f7, rfl, h7⟩
                  obtain ⟨pv7, gs7, h71, h72⟩ := h7.ex
                  have q2 := RdAt.bad h71
                  have F7 := Lib.hid ((From.below (b := b) (B := B) B6.out).trans f7)
                  have HEB := Lib.hid (end_any h7 (by simp) ⟨opn_ok (by have := hps20; simp only [List.length_cons] at this ⊢; have h3 := HBO.out.2.2.2; omega) HBO.out.2.2.1, HSO.out⟩ (by
                    have h1 := HSW.out
                    have h2 := HBO.out.1
                    have h3 := opn_w n1
                    simp only [stackW] at h1 ⊢
                    simp only [List.length_cons, Bool.false_eq_true, if_false] at h1 h2
                    omega))
                  clear h7 h71 h72 f7
                  go_wp2_with fail
                  refine (HEB.out).mono ?_
                  rintro e' W8 ⟨rfl, f8, h8⟩
                  have F8 := Lib.hid (F7.out.trans f8)
                  have H8 := Lib.hid h8
                  clear f8 h8
                  go_wp2_with fail
                  go_end0
                  rw [HE3.out]
                  exact ⟨rfl, F8.out, H8.out⟩
      · have h60f : (b0 == 60) = false := beq_eq_false_iff_ne.2 h60
        have HA60 : Hid (∀ W, Below w.heap.size w W → Calls Tryz.prog 26 #[.pointer (some ⟨b, 0, none⟩), .string ⟨#[60]⟩] W fun e w' => e = .returned (.bool false) ∧ Below W.heap.size W w') := fun W hb => by
          have h1 := HAH.out W hb [60]
          rw [show ([60] : Bs).isPrefixOf (b0 :: x) = false from by simp [List.isPrefixOf, Ne.symm h60]] at h1
          exact h1
        have HA67 : Hid (∀ W, Below w.heap.size w W → Calls Tryz.prog 26 #[.pointer (some ⟨b, 0, none⟩), .string ⟨#[60, 47]⟩] W fun e w' => e = .returned (.bool false) ∧ Below W.heap.size W w') := fun W hb => by
          have h1 := HAH.out W hb [60, 47]
          rw [show ([60, 47] : Bs).isPrefixOf (b0 :: x) = false from by simp [List.isPrefixOf, Ne.symm h60]] at h1
          exact h1
        have HE : Hid (stepL o ps (b0 :: x) = chS o ps sol (c, n) (decide (b0 = 38)) (refL (b0 :: x)) (b0 :: x)) := by show _ = _; rw [step_ch o ps x h60, HCD.out, HSL.out]
        clear h60 h60f
        go_upto_region 8 with (fail)
        refine wp_region_held_drew (S := (fun W : World => Below w.heap.size w W)) (by kernel_rfl) (Below.drew B2.out) (fun hS0 => ?_)
        refine wpAnyH_take (i := 0) (oi := { dst := some 72, op := _, type := _, pos := _, after := _, guard := _ }) (v := ?_) rfl (by kernel_rfl) (by kernel_rfl) (by kernel_rfl) (fun _ _ _ h => h) (Or.inl ⟨by kernel_rfl, ?_⟩) (by assumption) ?_
        rotate_left
        · (intro w hSw; (try dsimp only at hSw); go_simp); all_goals (with_reducible rfl)
        try simp only [Act.put, List.setIfInBounds_toArray, List.set_cons_zero, List.set_cons_succ]
        refine wpAnyH_ready (rs := [1]) (by kernel_rfl) (by simp) ?_
        refine (AllReadyH.cons (o := { dst := some 73, op := _, type := _, pos := _, after := _, guard := _ }) rfl (fun K hK => ?_) AllReadyH.nil)
        rw [if_pos (by kernel_rfl)]
        refine wp_call_go Tryz.func26 (by kernel_rfl) (by kernel_rfl) (xs := [.tmp 72, .const (.string ⟨#[60]⟩)]) (by rfl) (vs := [.pointer (some ⟨b, 0, none⟩), .string ⟨#[60]⟩]) (HA60.out _ hS0) (by rfl) ?_
        rintro e w' ⟨rfl, hb⟩
        refine ⟨_, rfl, ?_⟩
        refine hK.out _ w' (hS0.trans (hb.mono hS0.size)) (fun hSe => ?_)
        clear hK K
        try simp only [Act.put, List.setIfInBounds_toArray, List.set_cons_zero, List.set_cons_succ]
        refine wpAnyH_take (i := 2) (oi := { dst := some 74, op := _, type := _, pos := _, after := _, guard := _ }) (v := ?_) rfl (by kernel_rfl) (by kernel_rfl) (by kernel_rfl) (fun _ _ _ h => h) (Or.inl ⟨by kernel_rfl, ?_⟩) (by assumption) ?_
        rotate_left
        · (intro w hSw; (try dsimp only at hSw); go_simp); all_goals (with_reducible rfl)
        try simp only [Act.put, List.setIfInBounds_toArray, List.set_cons_zero, List.set_cons_succ]
        refine wpAnyH_take (i := 3) (oi := { dst := some 75, op := _, type := _, pos := _, after := _, guard := _ }) (v := undef) rfl (by kernel_rfl) (by kernel_rfl) (by kernel_rfl) (fun _ _ _ h => h) (Or.inr ⟨by kernel_rfl, rfl⟩) (by assumption) ?_
        try simp only [Act.put, List.setIfInBounds_toArray, List.set_cons_zero, List.set_cons_succ]
        refine wpAnyH_take (i := 4) (oi := { dst := some 76, op := _, type := _, pos := _, after := _, guard := _ }) (v := undef) rfl (by kernel_rfl) (by kernel_rfl) (by kernel_rfl) (fun _ _ _ h => h) (Or.inr ⟨by kernel_rfl, rfl⟩) (by assumption) ?_
        try simp only [Act.put, List.setIfInBounds_toArray, List.set_cons_zero, List.set_cons_succ]
        refine wpAnyH_take (i := 5) (oi := { dst := some 77, op := _, type := _, pos := _, after := _, guard := _ }) (v := undef) rfl (by kernel_rfl) (by kernel_rfl) (by kernel_rfl) (fun _ _ _ h => h) (Or.inr ⟨by kernel_rfl, rfl⟩) (by assumption) ?_
        try simp only [Act.put, List.setIfInBounds_toArray, List.set_cons_zero, List.set_cons_succ]
        refine wpAnyH_take (i := 6) (oi := { dst := some 78, op := _, type := _, pos := _, after := _, guard := _ }) (v := undef) rfl (by kernel_rfl) (by kernel_rfl) (by kernel_rfl) (fun _ _ _ h => h) (Or.inr ⟨by kernel_rfl, rfl⟩) (by assumption) ?_
        try simp only [Act.put, List.setIfInBounds_toArray, List.set_cons_zero, List.set_cons_succ]
        refine wpAnyH_take (i := 7) (oi := { dst := some 79, op := _, type := _, pos := _, after := _, guard := _ }) (v := undef) rfl (by kernel_rfl) (by kernel_rfl) (by kernel_rfl) (fun _ _ _ h => h) (Or.inr ⟨by kernel_rfl, rfl⟩) (by assumption) ?_
        try simp only [Act.put, List.setIfInBounds_toArray, List.set_cons_zero, List.set_cons_succ]
        refine wpAnyH_take (i := 8) (oi := { dst := some 80, op := _, type := _, pos := _, after := _, guard := _ }) (v := undef) rfl (by kernel_rfl) (by kernel_rfl) (by kernel_rfl) (fun _ _ _ h => h) (Or.inr ⟨by kernel_rfl, rfl⟩) (by assumption) ?_
        try simp only [Act.put, List.setIfInBounds_toArray, List.set_cons_zero, List.set_cons_succ]
        refine wpAnyH_take (i := 9) (oi := { dst := some 81, op := _, type := _, pos := _, after := _, guard := _ }) (v := undef) rfl (by kernel_rfl) (by kernel_rfl) (by kernel_rfl) (fun _ _ _ h => h) (Or.inr ⟨by kernel_rfl, rfl⟩) (by assumption) ?_
        try simp only [Act.put, List.setIfInBounds_toArray, List.set_cons_zero, List.set_cons_succ]
        refine wpAnyH_take (i := 10) (oi := { dst := some 82, op := _, type := _, pos := _, after := _, guard := _ }) (v := undef) rfl (by kernel_rfl) (by kernel_rfl) (by kernel_rfl) (fun _ _ _ h => h) (Or.inr ⟨by kernel_rfl, rfl⟩) (by assumption) ?_
        try simp only [Act.put, List.setIfInBounds_toArray, List.set_cons_zero, List.set_cons_succ]
        refine wpAnyH_take (i := 11) (oi := { dst := some 83, op := _, type := _, pos := _, after := _, guard := _ }) (v := undef) rfl (by kernel_rfl) (by kernel_rfl) (by kernel_rfl) (fun _ _ _ h => h) (Or.inr ⟨by kernel_rfl, rfl⟩) (by assumption) ?_
        try simp only [Act.put, List.setIfInBounds_toArray, List.set_cons_zero, List.set_cons_succ]
        refine wpAnyH_take (i := 12) (oi := { dst := some 84, op := _, type := _, pos := _, after := _, guard := _ }) (v := undef) rfl (by kernel_rfl) (by kernel_rfl) (by kernel_rfl) (fun _ _ _ h => h) (Or.inr ⟨by kernel_rfl, rfl⟩) (by assumption) ?_
        try simp only [Act.put, List.setIfInBounds_toArray, List.set_cons_zero, List.set_cons_succ]
        refine wpAnyH_take (i := 13) (oi := { dst := some 85, op := _, type := _, pos := _, after := _, guard := _ }) (v := undef) rfl (by kernel_rfl) (by kernel_rfl) (by kernel_rfl) (fun _ _ _ h => h) (Or.inr ⟨by kernel_rfl, rfl⟩) (by assumption) ?_
        try simp only [Act.put, List.setIfInBounds_toArray, List.set_cons_zero, List.set_cons_succ]
        refine wpAnyH_take (i := 14) (oi := { dst := some 86, op := _, type := _, pos := _, after := _, guard := _ }) (v := ?_) rfl (by kernel_rfl) (by kernel_rfl) (by kernel_rfl) (fun _ _ _ h => h) (Or.inl ⟨by kernel_rfl, ?_⟩) (by assumption) ?_
        rotate_left
        · (intro w hSw; (try dsimp only at hSw); go_simp); all_goals (with_reducible rfl)
        try simp only [Act.put, List.setIfInBounds_toArray, List.set_cons_zero, List.set_cons_succ]
        refine wpAnyH_take (i := 15) (oi := { dst := some 71, op := _, type := _, pos := _, after := _, guard := _ }) (v := ?_) rfl (by kernel_rfl) (by kernel_rfl) (by kernel_rfl) (fun _ _ _ h => h) (Or.inl ⟨by kernel_rfl, ?_⟩) (by assumption) ?_
        rotate_left
        · (intro w hSw; (try dsimp only at hSw); go_simp); all_goals (with_reducible rfl)
        try simp only [Act.put, List.setIfInBounds_toArray, List.set_cons_zero, List.set_cons_succ]
        refine wpAnyH_done (by kernel_rfl) ?_ _
        have B3 : Hid (Below w.heap.size w w') := hSe
        generalize w' = W3 at *
        clear hSe hS0
        go_wp2_with fail
        refine (HA67.out _ B3.out).mono ?_
        rintro e W4 ⟨rfl, hb⟩
        have B4 := Lib.hid (B3.out.trans (hb.mono B3.out.size))
        clear hb
        go_wp2_with fail
        refine (HA60.out _ B4.out).mono ?_
        rintro e W5 ⟨rfl, hb⟩
        have B5 := Lib.hid (B4.out.trans (hb.mono B4.out.size))
        clear hb
        go_wp2_with fail
        refine (HA60.out _ B5.out).mono ?_
        rintro e W6 ⟨rfl, hb⟩
        have B6 := Lib.hid (B5.out.trans (hb.mono B5.out.size))
        clear hb
        have k2 := cell_later B6.out HK2.out
        go_upto_region 22 with (fail)
        go_cut [152] (fun s152 wx => s152 = .bool (!(decide (o.kids.length = 0)) && sol) ∧ wx = W6)
        case first =>
          by_cases hk0 : o.kids.length = 0
          · have hkz : ¬ (0 : Int) < (o.kids.length : Int) := by omega
            have HD : Hid (decide (o.kids.length = 0) = true) := decide_eq_true hk0
            clear hk0
            go_wp2_with fail
            go_meet
            case rel => exact ⟨by rw [HD.out]; rfl, rfl⟩
          · have hkz : (0 : Int) < (o.kids.length : Int) := by omega
            have HD : Hid (decide (o.kids.length = 0) = false) := decide_eq_false hk0
            clear hk0
            go_wp2_with fail
            go_meet
            case rel => exact ⟨by rw [HD.out]; rfl, rfl⟩
        case rest =>
          obtain ⟨rfl, rfl⟩ := hcut
          by_cases hks : (!(decide (o.kids.length = 0)) && sol) = true
          · have HE2 : Hid (stepL o ps (b0 :: x) = .error (55, (b0 :: x).length)) := by
              show _ = _
              rw [HE.out]
              unfold chS
              rw [Bool.and_eq_true, Bool.not_eq_true', decide_eq_false_iff_not] at hks
              rw [if_pos ⟨fun e => hks.1 (by rw [e]; rfl), hks.2⟩]
            rw [hks]
            have q1 := cell_later B6.out HQ1.out
            have HF := Lib.hid (HFA.out _ B6.out)
            have HE := HE2
            clear hks
            go_wp2_with fail
            refine (HF.out).mono ?_
            rintro e WF ⟨rfl, h1, m1⟩
            have H1 := Lib.hid h1
            have M1 := Lib.hid ((From.below (b := b) (B := B) B6.out).trans (From.mine m1))
            clear h1 m1
            go_wp2_with fail
            go_end0
            rw [HE.out]
            exact ⟨rfl, M1.out, _, H1.out⟩
          · have HKS : Hid (¬ (o.kids ≠ [] ∧ sol = true)) := fun e => hks (by
              rw [Bool.and_eq_true, Bool.not_eq_true', decide_eq_false_iff_not]
              exact ⟨fun e2 => e.1 (List.eq_nil_of_length_eq_zero e2), e.2⟩)
            rw [Bool.eq_false_iff.2 hks]
            clear hks k2
            by_cases h38 : b0 = 38
            · subst h38
              have HA38 : Hid (∀ W, Below w.heap.size w W → Calls Tryz.prog 26 #[.pointer (some ⟨b, 0, none⟩), .string ⟨#[38]⟩] W fun e w' => e = .returned (.bool true) ∧ Below W.heap.size W w') := fun W hb => by
                have h1 := HAH.out W hb [38]
                rw [show ([38] : Bs).isPrefixOf (38 :: x) = true from rfl] at h1
                exact h1
              go_wp2_with fail
              refine (HA38.out _ B6.out).mono ?_
              rintro e W7 ⟨rfl, hb⟩
              have B7 := Lib.hid (B6.out.trans (hb.mono B6.out.size))
              clear hb
              have H7 := Lib.hid (HR.out.later B7.out)
              have P7 := Lib.hid (HP.out.below B7.out)
              have O7 : Hid (OpIn W7 o g W7.heap.size (.slice ak o.kids.length ck) v) := HO1.out.kept B7.out.size fun k _ _ hk => by
                obtain ⟨cs, t, e, _⟩ := hk
                exact B7.out.block k (Array.getElem?_eq_some_iff.1 e).1
              have X7 := Lib.hid ((B7.out.block g hgw).trans HBX.out)
              go_upto_region 26 with (refine wpList_store_cellN (by rfl) 4 _ _ (by rfl) g 5 (.bool true) (by rfl) (by rfl) (by rfl) 103 _ (by exact X7.out) (by exact Nat.le_of_ble_eq_true rfl) (by kernel_rfl) (fun W => Chg W7 W (fun k => k = g) ∧ W.heap[g]? = some (.cells (oC (Bs.str o.name) (.slice ak o.kids.length ck) (.pointer ad) v true) 103 (0, 0))) (by exact ⟨Chg.setRow_on (Chg.refl _ _) _ rfl, setRow_heap _ _ _ _ _ _ X7.out⟩) ?_; rintro W8 h8)
              have H8 := Lib.hid (H7.out.chg h8.1 (by omega))
              have C8 : Hid (Chg W7 W8 (fun k => k = b ∨ k = g ∨ some k = v.ownBlock)) := h8.1.mono fun k _ e => .inr (.inl e)
              have BD8 : Hid (BdAt W8 g (Bs.str o.name) (.slice ak o.kids.length ck) true o.text v) := ⟨⟨ad, h8.2, hadv⟩, own_keep O7.out.bd.own fun k hk => h8.1.block k (O7.out.bd.own.lt k hk).2 (fun e => O7.out.bd.nb (by rw [hk, e]))⟩
              have G8 := Lib.hid (HG.out.from (b := b) ((From.below B7.out).trans (Chg.mono h8.1 fun k _ e => by omega)) hb8 (by omega) hlow).g
              have HRF := Lib.hid (rref_any H8.out BD8.out (by omega) hvb.out G8.out hsm.2.1)
              clear h8 HA60 HA67 HA38 HFA HFZ HAH
              go_wp2_with fail
              refine (HRF.out).mono ?_
              rintro e' W9 ⟨rfl, c9, h9⟩
              have C9 : Hid (Chg W7 W9 (fun k => k = b ∨ k = g ∨ some k = v.ownBlock)) := C8.out.trans c9
              have F9 : Hid (From b B w W9) := (From.below B7.out).trans (C9.out.mono fun k _ e => by
                rcases e with e | e | e
                · omega
                · omega
                · have := (O7.out.bd.own.lt k e.symm).1; omega)
              cases hrf : refL (38 :: x) with
              | error z =>
                rw [hrf] at h9
                have HE2 : Hid (stepL o ps (38 :: x) = .error z) := by
                  show _ = _
                  rw [HE.out]
                  unfold chS
                  rw [if_neg HKS.out, if_pos (by decide), hrf]
                  rfl
                have H9 : Hid (RdBad W9 b S z.1 z.2 (.slice (some ⟨pb, 0, none⟩) (N + 1) cv)) := h9
                clear hrf h9 c9
                go_wp2_with fail
                go_end0
                rw [HE2.out]
                exact ⟨rfl, F9.out, _, H9.out⟩
              | ok z =>
                obtain ⟨t, r1⟩ := z
                rw [hrf] at h9
                have HE2 : Hid (stepL o ps (38 :: x) = .ok ({ o with solid := true, text := o.text ++ t } :: ps, r1)) := by
                  show _ = _
                  rw [HE.out]
                  unfold chS
                  rw [if_neg HKS.out, if_pos (by decide), ok_bind hrf]
                have h91 : RdAt W9 b S r1 (.slice (some ⟨pb, 0, none⟩) (N + 1) cv) := h9.1
                obtain ⟨v', h92⟩ := h9.2
                have hne := ref_ne hrf
                have H9 : Hid (Mach W9 b B S r1 ({ o with solid := true, text := o.text ++ t } :: ps)) :=
                  ⟨_, _, h91, Pile.top (o' := { o with solid := true, text := o.text ++ t }) P7.out H7.out O7.out C9.out h92 rfl (fun e => absurd (List.append_eq_nil_iff.1 e).2 hne)⟩
                clear hrf h9 c9 h91 h92 hne
                go_wp2_with fail
                go_end0
                rw [HE2.out]
                exact ⟨rfl, F9.out, H9.out⟩
            · have HA38 : Hid (∀ W, Below w.heap.size w W → Calls Tryz.prog 26 #[.pointer (some ⟨b, 0, none⟩), .string ⟨#[38]⟩] W fun e w' => e = .returned (.bool false) ∧ Below W.heap.size W w') := fun W hb => by
                have h1 := HAH.out W hb [38]
                rw [show ([38] : Bs).isPrefixOf (b0 :: x) = false from by simp [List.isPrefixOf, Ne.symm h38]] at h1
                exact h1
              have HE2 : Hid (stepL o ps (b0 :: x) = if ((c, n).1 = 65533 ∧ (c, n).2 = 1) ∨ knowsX ((c, n).1 : Nat) = false then .error (55, (b0 :: x).length) else .ok ({ o with solid := o.solid || sol, text := o.text ++ encX ((c, n).1 : Nat) } :: ps, (b0 :: x).drop (c, n).2)) := by
                show _ = _
                rw [HE.out]
                unfold chS
                rw [if_neg HKS.out, if_neg (by rw [decide_eq_false h38]; decide)]
              clear h38
              go_wp2_with fail
              refine (HA38.out _ B6.out).mono ?_
              rintro e W7 ⟨rfl, hb⟩
              have B7 := Lib.hid (B6.out.trans (hb.mono B6.out.size))
              clear hb
              have HKN := Lib.hid (fun W => xknows_any (c : Int) W)
              obtain ⟨kb, hkb⟩ : ∃ kb, knowsX (c : Int) = kb := ⟨_, rfl⟩
              rw [hkb] at HKN
              have HKB := Lib.hid hkb
              clear hkb
              by_cases hbad : (c : Int) = 65533 ∧ (n : Int) = 1
              · have HE3 : Hid (stepL o ps (b0 :: x) = .error (55, (b0 :: x).length)) := by show _ = _; rw [HE2.out, if_pos (.inl ⟨by show c = 65533; omega, by show n = 1; omega⟩)]
                have q1 := cell_later B7.out HQ1.out
                have HF := Lib.hid (HFA.out _ B7.out)
                have HE := HE3
                obtain ⟨hb1, hb2⟩ := hbad
                go_wp2_with fail
                refine (HF.out).mono ?_
                rintro e WF ⟨rfl, h1, m1⟩
                have H1 := Lib.hid h1
                have M1 := Lib.hid ((From.below (b := b) (B := B) B7.out).trans (From.mine m1))
                clear h1 m1
                go_wp2_with fail
                go_end0
                rw [HE.out]
                exact ⟨rfl, M1.out, _, H1.out⟩
              · go_upto_region 27 with (fail)
                go_cut [180] (fun s180 wx => s180 = .bool (!kb) ∧ wx = W7)
                case first =>
                  by_cases hc5 : (c : Int) = 65533
                  · have hn5 : ((n : Int) == 1) = false := beq_eq_false_iff_ne.2 (fun e => hbad ⟨hc5, e⟩)
                    have hc5b : ((c : Int) == 65533) = true := beq_iff_eq.2 hc5
                    clear hbad hc5
                    go_wp2_with fail
                    refine (HKN.out _).mono ?_
                    rintro e' W8 ⟨rfl, rfl⟩
                    go_wp2_with fail
                    go_meet
                    case rel => exact ⟨rfl, rfl⟩
                  · clear hbad
                    go_wp2_with fail
                    refine (HKN.out _).mono ?_
                    rintro e' W8 ⟨rfl, rfl⟩
                    go_wp2_with fail
                    go_meet
                    case rel => exact ⟨rfl, rfl⟩
                case rest =>
                  obtain ⟨rfl, rfl⟩ := hcut
                  generalize wc = W7 at *
                  cases kb with
                  | false =>
                    have HE3 : Hid (stepL o ps (b0 :: x) = .error (55, (b0 :: x).length)) := by show _ = _; rw [HE2.out, if_pos (.inr HKB.out)]
                    have q1 := cell_later B7.out HQ1.out
                    have HF := Lib.hid (HFA.out _ B7.out)
                    have HE := HE3
                    clear hbad
                    go_wp2_with fail
                    refine (HF.out).mono ?_
                    rintro e WF ⟨rfl, h1, m1⟩
                    have H1 := Lib.hid h1
                    have M1 := Lib.hid ((From.below (b := b) (B := B) B7.out).trans (From.mine m1))
                    clear h1 m1
                    go_wp2_with fail
                    go_end0
                    rw [HE.out]
                    exact ⟨rfl, M1.out, _, H1.out⟩
                  | true =>
                    have hnb : ¬ (((c, n).1 = 65533 ∧ (c, n).2 = 1) ∨ knowsX ((c, n).1 : Nat) = false) := by
                      rintro (⟨e1, e2⟩ | e)
                      · have e1' : c = 65533 := e1
                        have e2' : n = 1 := e2
                        exact hbad ⟨by omega, by omega⟩
                      · have e' : knowsX (c : Int) = false := e
                        rw [HKB.out] at e'
                        cases e'
                    have HE3 : Hid (stepL o ps (b0 :: x) = .ok ({ o with solid := o.solid || sol, text := o.text ++ encX (c : Nat) } :: ps, (b0 :: x).drop n)) := by show _ = _; rw [HE2.out, if_neg hnb]
                    have hokx : okX (b0 :: x) = true := by
                      unfold okX
                      rw [HCD.out, Bool.and_eq_true, Bool.not_eq_true', Bool.and_eq_false_iff, decide_eq_false_iff_not, decide_eq_false_iff_not]
                      refine ⟨?_, HKB.out⟩
                      by_cases e : c = 65533
                      · exact .inr fun e2 => hbad ⟨by omega, by have e2' : n = 1 := e2; omega⟩
                      · exact .inl e
                    have HNL : Hid (n ≤ (b0 :: x).length) := by
                      have h1 := (plain_dec (l := b0 :: x) (by simp) hokx).2.2
                      rw [HCD.out] at h1
                      exact h1
                    have HNE := Lib.hid (decode_enc HKB.out).2
                    clear hnb hokx hbad hn1
                    have k5 := cell_later B7.out HK5.out
                    obtain ⟨os, hos⟩ : ∃ os, o.solid = os := ⟨_, rfl⟩
                    rw [hos] at k5
                    cases os with
                    | true =>
                      have HOS : Hid ((o.solid || sol) = true) := by show _ = _; rw [hos]; rfl
                      clear hos
                      have H7 := Lib.hid (HR.out.later B7.out)
                      have P7 := Lib.hid (HP.out.below B7.out)
                      have O7 : Hid (OpIn W7 o g W7.heap.size (.slice ak o.kids.length ck) v) := HO1.out.kept B7.out.size fun k _ _ hk => by
                        obtain ⟨cs, t, e, _⟩ := hk
                        exact B7.out.block k (Array.getElem?_eq_some_iff.1 e).1
                      have X7 := Lib.hid ((B7.out.block g hgw).trans HBX.out)
                      go_upto_region 4 with (refine wpList_store_cellN (by rfl) 4 _ _ (by rfl) g 5 (.bool true) (by rfl) (by rfl) (by rfl) 103 _ (by exact X7.out) (by exact Nat.le_of_ble_eq_true rfl) (by kernel_rfl) (fun W => Chg W7 W (fun k => k = g) ∧ W.heap[g]? = some (.cells (oC (Bs.str o.name) (.slice ak o.kids.length ck) (.pointer ad) v true) 103 (0, 0))) (by exact ⟨Chg.setRow_on (Chg.refl _ _) _ rfl, setRow_heap _ _ _ _ _ _ X7.out⟩) ?_; rintro W8 h8)
                      have H8 := Lib.hid (H7.out.chg h8.1 (by omega))
                      have C8 : Hid (Chg W7 W8 (fun k => k = b ∨ k = g ∨ some k = v.ownBlock)) := h8.1.mono fun k _ e => .inr (.inl e)
                      have BD8 : Hid (BdAt W8 g (Bs.str o.name) (.slice ak o.kids.length ck) true o.text v) := ⟨⟨ad, h8.2, hadv⟩, own_keep O7.out.bd.own fun k hk => h8.1.block k (O7.out.bd.own.lt k hk).2 (fun e => O7.out.bd.nb (by rw [hk, e]))⟩
                      have hx7 := (B7.out.block b HR.out.lt).trans HH.out
                      have hx8 := (h8.1.block b H7.out.lt (by omega)).trans hx7
                      have HWR := Lib.hid (writeRune_any g (Bs.str o.name) (.slice ak o.kids.length ck) true o.text (c : Int) (by omega) (by omega) v W8 BD8.out (by have := hsm.2.1; omega))
                      clear h8 HA60 HA67 HA38 HFA HFZ HAH HKN k5
                      go_wp2_with fail
                      refine (HWR.out).mono ?_
                      rintro e' W9 ⟨⟨zz, rfl⟩, v', hb9, c9⟩
                      have hx9 := (c9.block b H8.out.lt (by rintro (e | e); omega; exact hvb.out e.symm)).trans hx8
                      have C9 := Lib.hid (C8.out.trans (c9.mono fun k _ e => .inr e))
                      have q1 : W9.cell? ⟨b, 1, none⟩ = some (.int .i64 (a0 : Int)) := cell_at hx9 rfl
                      have f1 : W9.frozen? ⟨b, 1, none⟩ = false := free_of_heap hx9
                      obtain ⟨W10, hW10⟩ : ∃ W10, W9.setCell ⟨b, 1, none⟩ (.int .i64 ((a0 : Int) + (n : Int))) = W10 := ⟨_, rfl⟩
                      have m10 : Mine b W9 W10 := by rw [← hW10]; exact mine_set _ _ _ _
                      have h10 : RdAt W10 b S ((b0 :: x).drop n) (.slice (some ⟨pb, 0, none⟩) (N + 1) cv) := by
                        rw [← hW10]
                        exact ⟨a0 + n, by have := HNL.out; simp only [List.length_cons] at this; omega, hs, by rw [← List.drop_drop, HXX.out.2.2], at_set hx9 (a0 + n)⟩
                      have hvb' : v'.ownBlock ≠ some b := fun e => by have := (hb9.own.lt b e).1; omega
                      have C10 : Hid (Chg W7 W10 (fun k => k = b ∨ k = g ∨ some k = v.ownBlock)) := C9.out.trans (Chg.mono m10 fun k _ e => .inl e)
                      have hbd : BdAt W10 g (Bs.str ({ o with solid := o.solid || sol, text := o.text ++ encX (c : Nat) } : Opn).name) (.slice ak o.kids.length ck) ({ o with solid := o.solid || sol, text := o.text ++ encX (c : Nat) } : Opn).solid ({ o with solid := o.solid || sol, text := o.text ++ encX (c : Nat) } : Opn).text v' := by
                        show BdAt W10 g (Bs.str o.name) (.slice ak o.kids.length ck) (o.solid || sol) (o.text ++ encX (c : Nat)) v'
                        rw [HOS.out]
                        exact hb9.kept m10 (by omega) (fun k hk e => hvb' (by rw [hk, e]))
                      have H10 : Hid (Mach W10 b B S ((b0 :: x).drop n) ({ o with solid := o.solid || sol, text := o.text ++ encX (c : Nat) } :: ps)) :=
                        ⟨_, _, h10, Pile.top (o' := { o with solid := o.solid || sol, text := o.text ++ encX (c : Nat) }) P7.out H7.out O7.out C10.out hbd rfl (fun e => absurd (List.append_eq_nil_iff.1 e).2 HNE.out)⟩
                      have F10 : Hid (From b B w W10) := (From.below B7.out).trans (C10.out.mono fun k _ e => by
                        rcases e with e | e | e
                        · omega
                        · omega
                        · have := (O7.out.bd.own.lt k e.symm).1; omega)
                      have hanz : (a0 : Int) + (n : Int) ≤ 8000 := by have := HNL.out; simp only [List.length_cons] at this; omega
                      clear hx7 hx8 hx9 m10 h10 hbd hb9 c9 hvb'
                      go_wp2_with fail
                      (try rw [hW10])
                      go_end0
                      rw [HE3.out]
                      exact ⟨rfl, F10.out, H10.out⟩
                    | false =>
                      have HOS : Hid ((o.solid || sol) = sol) := by show _ = _; rw [hos]; rfl
                      clear hos
                      have H7 := Lib.hid (HR.out.later B7.out)
                      have P7 := Lib.hid (HP.out.below B7.out)
                      have O7 : Hid (OpIn W7 o g W7.heap.size (.slice ak o.kids.length ck) v) := HO1.out.kept B7.out.size fun k _ _ hk => by
                        obtain ⟨cs, t, e, _⟩ := hk
                        exact B7.out.block k (Array.getElem?_eq_some_iff.1 e).1
                      have X7 := Lib.hid ((B7.out.block g hgw).trans HBX.out)
                      go_upto_region 4 with (refine wpList_store_cellN (by rfl) 4 _ _ (by rfl) g 5 (.bool sol) (by rfl) (by rfl) (by rfl) 103 _ (by exact X7.out) (by exact Nat.le_of_ble_eq_true rfl) (by kernel_rfl) (fun W => Chg W7 W (fun k => k = g) ∧ W.heap[g]? = some (.cells (oC (Bs.str o.name) (.slice ak o.kids.length ck) (.pointer ad) v sol) 103 (0, 0))) (by exact ⟨Chg.setRow_on (Chg.refl _ _) _ rfl, setRow_heap _ _ _ _ _ _ X7.out⟩) ?_; rintro W8 h8)
                      have H8 := Lib.hid (H7.out.chg h8.1 (by omega))
                      have C8 : Hid (Chg W7 W8 (fun k => k = b ∨ k = g ∨ some k = v.ownBlock)) := h8.1.mono fun k _ e => .inr (.inl e)
                      have BD8 : Hid (BdAt W8 g (Bs.str o.name) (.slice ak o.kids.length ck) sol o.text v) := ⟨⟨ad, h8.2, hadv⟩, own_keep O7.out.bd.own fun k hk => h8.1.block k (O7.out.bd.own.lt k hk).2 (fun e => O7.out.bd.nb (by rw [hk, e]))⟩
                      have hx7 := (B7.out.block b HR.out.lt).trans HH.out
                      have hx8 := (h8.1.block b H7.out.lt (by omega)).trans hx7
                      have HWR := Lib.hid (writeRune_any g (Bs.str o.name) (.slice ak o.kids.length ck) sol o.text (c : Int) (by omega) (by omega) v W8 BD8.out (by have := hsm.2.1; omega))
                      clear h8 HA60 HA67 HA38 HFA HFZ HAH HKN k5
                      go_wp2_with fail
                      refine (HWR.out).mono ?_
                      rintro e' W9 ⟨⟨zz, rfl⟩, v', hb9, c9⟩
                      have hx9 := (c9.block b H8.out.lt (by rintro (e | e); omega; exact hvb.out e.symm)).trans hx8
                      have C9 := Lib.hid (C8.out.trans (c9.mono fun k _ e => .inr e))
                      have q1 : W9.cell? ⟨b, 1, none⟩ = some (.int .i64 (a0 : Int)) := cell_at hx9 rfl
                      have f1 : W9.frozen? ⟨b, 1, none⟩ = false := free_of_heap hx9
                      obtain ⟨W10, hW10⟩ : ∃ W10, W9.setCell ⟨b, 1, none⟩ (.int .i64 ((a0 : Int) + (n : Int))) = W10 := ⟨_, rfl⟩
                      have m10 : Mine b W9 W10 := by rw [← hW10]; exact mine_set _ _ _ _
                      have h10 : RdAt W10 b S ((b0 :: x).drop n) (.slice (some ⟨pb, 0, none⟩) (N + 1) cv) := by
                        rw [← hW10]
                        exact ⟨a0 + n, by have := HNL.out; simp only [List.length_cons] at this; omega, hs, by rw [← List.drop_drop, HXX.out.2.2], at_set hx9 (a0 + n)⟩
                      have hvb' : v'.ownBlock ≠ some b := fun e => by have := (hb9.own.lt b e).1; omega
                      have C10 : Hid (Chg W7 W10 (fun k => k = b ∨ k = g ∨ some k = v.ownBlock)) := C9.out.trans (Chg.mono m10 fun k _ e => .inl e)
                      have hbd : BdAt W10 g (Bs.str ({ o with solid := o.solid || sol, text := o.text ++ encX (c : Nat) } : Opn).name) (.slice ak o.kids.length ck) ({ o with solid := o.solid || sol, text := o.text ++ encX (c : Nat) } : Opn).solid ({ o with solid := o.solid || sol, text := o.text ++ encX (c : Nat) } : Opn).text v' := by
                        show BdAt W10 g (Bs.str o.name) (.slice ak o.kids.length ck) (o.solid || sol) (o.text ++ encX (c : Nat)) v'
                        rw [HOS.out]
                        exact hb9.kept m10 (by omega) (fun k hk e => hvb' (by rw [hk, e]))
                      have H10 : Hid (Mach W10 b B S ((b0 :: x).drop n) ({ o with solid := o.solid || sol, text := o.text ++ encX (c : Nat) } :: ps)) :=
                        ⟨_, _, h10, Pile.top (o' := { o with solid := o.solid || sol, text := o.text ++ encX (c : Nat) }) P7.out H7.out O7.out C10.out hbd rfl (fun e => absurd (List.append_eq_nil_iff.1 e).2 HNE.out)⟩
                      have F10 : Hid (From b B w W10) := (From.below B7.out).trans (C10.out.mono fun k _ e => by
                        rcases e with e | e | e
                        · omega
                        · omega
                        · have := (O7.out.bd.own.lt k e.symm).1; omega)
                      have hanz : (a0 : Int) + (n : Int) ≤ 8000 := by have := HNL.out; simp only [List.length_cons] at this; omega
                      clear hx7 hx8 hx9 m10 h10 hbd hb9 c9 hvb'
                      go_wp2_with fail
                      (try rw [hW10])
                      go_end0
                      rw [HE3.out]
                      exact ⟨rfl, F10.out, H10.out⟩
end Go.Proofs.YtgmgghbocidibaaGreatDoor
