/-
  WIRE: Feed, New, Done, Fault, Held. (Printed by wip/gen/wifeed.py.)
-/
import Derived.Test.YtdilmefeofdkmaaGreatDoorSm15
namespace Go.Proofs.YtdilmefeofdkmaaGreatDoor
open Go.RowKit

/-- who takes the next byte -/
def fnOf : Mode → Nat
  | .first => 54
  | .field => 78
  | .bytes => 116
  | .size => 114
  | .chunk => 134
  | .chunkEnd => 148
  | .last => 133
theorem nextV_fn (rd : Nat) (m : Mode) : nextV rd m = .func (.func (fnOf m)) #[.pointer (some ⟨rd, 0, none⟩)] #[] := by cases m <;> rfl
theorem fnOf_enters (m : Mode) : ∀ args w, (callFunc (fnOf m) args).run Tryz.prog w = .ok (.enter (fnOf m) args) w := by
  cases m
  · exact enters_of Tryz.func54 (by kernel_rfl) rfl
  · exact enters_of Tryz.func78 (by kernel_rfl) rfl
  · exact enters_of Tryz.func116 (by kernel_rfl) rfl
  · exact enters_of Tryz.func114 (by kernel_rfl) rfl
  · exact enters_of Tryz.func134 (by kernel_rfl) rfl
  · exact enters_of Tryz.func148 (by kernel_rfl) rfl
  · exact enters_of Tryz.func133 (by kernel_rfl) rfl

/-- a byte -/
theorem step_any {w : World} {rd : Nat} {ms : Own} {s : RS} {out : List ReqV} {N : Nat} (h : RdrAt w rd ms s out) (hw : WF N s) (hN : N ≤ 1000000000) (hd : s.done = false) (ho : out.length ≤ 1000000000) (b : UInt8) :
    Calls Tryz.prog (fnOf s.mode) #[.pointer (some ⟨rd, 0, none⟩), .int .u8 b.toNat] w fun x w' => x = .returned (.tuple #[]) ∧ RdPost w rd ms (s.step b).1 (out ++ (s.step b).2) w' := by
  have h1 := hw.h0; have h2 := hw.hd hd; have h3 := hw.line; have h4 := hw.body; have h5 := hw.flds; have h6 := hw.b0; have h7 := hw.b1; have h8 := hw.t0; have h9 := hw.t1; have ha := hw.l0; have hb := hw.l1
  have hv : ∀ f ∈ s.fields, f.2.length ≤ 140737488351232 := fun f hf => by have := hw.vals f hf; omega
  cases hm : s.mode with
  | first =>
    have e : s.step b = (s.first b, []) := by unfold RS.step; rw [hm]
    rw [e, List.append_nil]
    exact first_any h b (by omega) h1 h2 h6 (by omega) h8 (by omega)
  | field =>
    have e : s.step b = s.field b := by unfold RS.step; rw [hm]
    rw [e]
    exact field_any h b (by omega) h1 h2 (by omega) ho hv
  | bytes =>
    have e : s.step b = s.bytes b := by unfold RS.step; rw [hm]
    rw [e]
    exact bytes_any h b (by omega) ha (by omega) (by omega) ho hv
  | size =>
    have e : s.step b = (s.size b, []) := by unfold RS.step; rw [hm]
    rw [e, List.append_nil]
    exact size_any h b (by omega) (by omega)
  | chunk =>
    have e : s.step b = (s.chunk b, []) := by unfold RS.step; rw [hm]
    rw [e, List.append_nil]
    exact chunk_any h b (by omega) ha (by omega)
  | chunkEnd =>
    have e : s.step b = (s.chunkEnd b, []) := by unfold RS.step; rw [hm]
    rw [e, List.append_nil]
    exact chunkEnd_any h b (by omega)
  | last =>
    have e : s.step b = s.last b := by unfold RS.step; rw [hm]
    rw [e]
    exact last_any h b (by omega) (by omega) ho hv

/-- requests that were told: K the blocks in which they lie -/
def ReqsAt (w : World) (v : Value) (qs : List ReqV) (K : Nat → Prop) : Prop := ∃ xs, w.ownsRow 0 31 6 v qs.length xs ∧ ReqRows w K qs xs ∧ ∀ b, v.ownBlock = some b → K b
theorem ReqsAt.kept {w w' : World} {v : Value} {qs : List ReqV} {K : Nat → Prop} (h : ReqsAt w v qs K) (hk : ∀ b, b < w.heap.size → K b → w'.heap[b]? = w.heap[b]?) : ReqsAt w' v qs K := by
  obtain ⟨xs, h1, h2, h3⟩ := h
  exact ⟨xs, row_kept h1 fun g hg hl => hk g hl (h3 g hg), h2.kept hk fun _ _ x => x, h3⟩
/-- what was told is fetched -/
theorem RdrIn.fetch {w : World} {rd : Nat} {ms : Own} {s : RS} {out : List ReqV} {vo vl vf vb : Value} (h : RdrIn w rd ms s out vo vl vf vb) :
    RdrIn (w.setCell ⟨rd, 3, none⟩ (.slice none 0 0)) rd (ms.to fun b => ms b ∧ vo.ownBlock ≠ some b) s [] (.slice none 0 0) vl vf vb ∧ ∃ K, ReqsAt (w.setCell ⟨rd, 3, none⟩ (.slice none 0 0)) vo out K ∧ ∀ b, K b → b < w.heap.size ∧ ¬ (ms b ∧ vo.ownBlock ≠ some b) ∧ ms.q b := by
  have hsz : (w.setCell ⟨rd, 3, none⟩ (.slice none 0 0)).heap.size = w.heap.size := by simp [World.setCell]
  obtain ⟨xs, ok, h1, h2, h3⟩ := h.outs
  refine ⟨⟨⟨h.glob.chg (Chg.set w ⟨rd, 3, none⟩ _) (fun b hb => by simp only at hb; rw [hb]; exact (h.low rd h.rdM).1) h.size, by rw [heap_set h.box]; rfl, ⟨[], fun _ => False, World.ownsRow_nil _ _ _ _, rfl, fun _ x => x.elim⟩, ⟨h.rdM, fun e => (h.oO rd e).2 rfl⟩, (fun b hb => by cases hb), (fun b hb => by rw [hsz]; exact h.low b hb.1), ⟨fun b hb => h.own.1 b hb.1, fun b hb => h.own.2 b (by rw [← hsz]; exact hb)⟩⟩,
    row_kept h.line fun g hg _ => Below.heap_setCell _ _ _ _ (h.oL g hg).2, row_kept h.body fun g hg _ => Below.heap_setCell _ _ _ _ (h.oB g hg).2, row_kept h.flds fun g hg _ => Below.heap_setCell _ _ _ _ (h.oF g hg).2,
    fun b hb => ⟨⟨(h.oL b hb).1, h.lo b hb⟩, (h.oL b hb).2⟩, fun b hb => ⟨⟨(h.oB b hb).1, h.bo b hb⟩, (h.oB b hb).2⟩, fun b hb => ⟨⟨(h.oF b hb).1, h.fo b hb⟩, (h.oF b hb).2⟩,
    h.lb, h.lf, (Dj.nil _).symm, h.bf, (Dj.nil _).symm, (Dj.nil _).symm⟩, fun b => (ok b ∧ b < w.heap.size) ∨ vo.ownBlock = some b, ⟨xs, row_kept h1 fun g hg _ => Below.heap_setCell _ _ _ _ (h.oO g hg).2, h2.kept (fun b hl hob => Below.heap_setCell _ _ _ _ (fun e => (h3 b hob).1 (by simp only at e; rw [e]; exact h.rdM))) (fun b hl x => .inl ⟨x, hl⟩), fun b hb => .inr hb⟩, fun b hb => ?_⟩
  rcases hb with hb | hb
  · exact ⟨hb.2, fun x => (h3 b hb.1).1 x.1, (h3 b hb.1).2⟩
  · exact ⟨(h1.lt b hb).2, fun x => x.2 hb, h.own.1 b (h.oO b hb).1⟩

/-- what Feed leaves; the blocks of what was told were the Reader's own, or are new -/
def FeedOut (w : World) (rd : Nat) (ms : Own) (s' : RS) (qs : List ReqV) (e : Ending) (w' : World) : Prop :=
  ∃ v ms' K, e = .returned v ∧ RdrAt w' rd ms' s' [] ∧ Mv w w' ms ms' ∧ ReqsAt w' v qs K ∧ (∀ b, K b → b < w'.heap.size ∧ ¬ ms' b ∧ (ms b ∨ w.heap.size ≤ b)) ∧ ∀ b, v.ownBlock = some b → ms b ∨ w.heap.size ≤ b
def FeedOut0 (w : World) (rd : Nat) (ms : Own) (s' : RS) (qs : List ReqV) (e : Ending) (w' : World) : Prop :=
  ∃ v ms' K, e = .returned v ∧ RdrAt w' rd ms' s' [] ∧ Mv w w' ms ms' ∧ ReqsAt w' v qs K ∧ (∀ b, K b → b < w'.heap.size ∧ ¬ ms' b ∧ ms.q b) ∧ ∀ b, v.ownBlock = some b → ms b ∨ w.heap.size ≤ b

set_option maxHeartbeats 4000000 in
set_option maxRecDepth 100000 in
theorem feed_any0 {w : World} {rd : Nat} {ms : Own} {s : RS} {N : Nat} (piece : List UInt8) (h : RdrAt w rd ms s []) (hw : WF N s) (hN : N + piece.length ≤ 1000000000) :
    Calls Tryz.prog 16 #[.pointer (some ⟨rd, 0, none⟩), .string ⟨piece.toArray⟩] w (FeedOut0 w rd ms (s.feed piece).1 (s.feed piece).2) := by
  have R0 := Lib.hid h
  have W0 := Lib.hid hw
  clear h hw
  go_enter Tryz.func16, Tryz.ntmps16
  go_wp2
  go_loopg [5] piece.length (fun gg s5 wr => ∃ (i : Nat) (ms' : Own), i ≤ piece.length ∧ piece.length - i ≤ gg ∧ s5 = .int .i64 i ∧ Hid (RdrAt wr rd ms' (s.feed (piece.take i)).1 (s.feed (piece.take i)).2) ∧ Hid (Mv w wr ms ms') ∧ Hid (WF (N + i) (s.feed (piece.take i)).1) ∧ Hid ((s.feed (piece.take i)).2.length ≤ i))
  case atStart => exact ⟨0, ms, Nat.zero_le _, by omega, rfl, R0.out, Mv.refl _ _, W0.out, Nat.le_refl _⟩
  case round =>
    obtain ⟨i, msx, hin, hg, rfl, RX, MX, WX, LX⟩ := hrel
    have HEND : Hid ((i = piece.length ∨ (s.feed (piece.take i)).1.done = true) → s.feed piece = s.feed (piece.take i)) := fun hx => by
      rcases hx with rfl | hx
      · rw [List.take_length]
      · have := feed_stop s (piece.take i) (piece.drop i) hx
        rwa [List.take_append_drop] at this
    have HSN : Hid (i < piece.length → (s.feed (piece.take i)).1.done = false → s.feed (piece.take (i + 1)) = (((s.feed (piece.take i)).1.step (piece.getD i 0)).1, (s.feed (piece.take i)).2 ++ ((s.feed (piece.take i)).1.step (piece.getD i 0)).2)) := fun hl hd => by
      have := feed_snoc s (piece.take i) (piece.getD i 0) hd
      rw [← this]
      congr 1
      rw [List.take_add_one]
      simp [List.getD, hl]
    generalize s.feed (piece.take i) = r at *
    obtain ⟨st, qs⟩ := r
    simp only at RX WX LX HEND HSN
    obtain ⟨vo, vl, vf, vb, hI⟩ := RX.out
    have q2 : wr.cell? ⟨rd, 2, none⟩ = some (.bool st.done) := cell_of_heap hI.box
    by_cases hex : i < piece.length ∧ st.done = false
    · obtain ⟨hlt, hdn⟩ := hex
      have hltz : (i : Int) < (piece.length : Int) := by omega
      have HSN := Lib.hid (HSN.out hlt hdn)
      have WN := Lib.hid (step_wf WX.out hdn (piece.getD i 0))
      have LN : Hid ((qs ++ (st.step (piece.getD i 0)).2).length ≤ i + 1) := by
        show _ ≤ _
        have h1 := step_len st (piece.getD i 0)
        have h2 := LX.out
        rw [List.length_append]
        omega
      obtain ⟨k, hk⟩ : ∃ k, fnOf st.mode = k := ⟨_, rfl⟩
      have eg : ∀ args w, (callFunc k args).run Tryz.prog w = .ok (.enter k args) w := by rw [← hk]; exact fnOf_enters _
      rw [hdn] at q2
      go_upto_region 4 with (fail)
      refine wp_region_held_drew (S := (fun _ => True)) (by kernel_rfl) trivial (fun hS0 => ?_)
      have hbd : Below wr.heap.size wr wr.drew := Below.drew (Below.refl _ _)
      have RD := Lib.hid (RX.out.later hbd)
      have MD := Lib.hid (MX.out.later hbd)
      have c0 : wr.drew.cell? ⟨rd, 0, none⟩ = some (.func (.func k) #[.pointer (some ⟨rd, 0, none⟩)] #[]) := (cell_of_heap hI.box).trans (by rw [← hk]; exact congrArg some (nextV_fn rd _))
      have HST := Lib.hid (step_any RD.out WX.out (by omega) hdn (by have := LX.out; omega) ((⟨piece.toArray⟩ : ByteArray)[i]'(by simpa [ByteArray.size] using hlt)))
      rw [hk] at HST
      clear RX MX hbd hI
      generalize wr.drew = wd at RD MD c0 HST ⊢
      refine wpAnyH_take (i := 0) (oi := { dst := some 20, op := _, type := _, pos := _, after := _, guard := _ }) (v := ?_) rfl (by kernel_rfl) (by kernel_rfl) (by kernel_rfl) (fun _ _ _ h => h) (Or.inl ⟨by kernel_rfl, ?_⟩) (by assumption) ?_
      rotate_left
      · (intro w hSw; (try dsimp only at hSw); go_simp); all_goals (with_reducible rfl)
      try simp only [Act.put, List.setIfInBounds_toArray, List.set_cons_zero, List.set_cons_succ]
      refine wpAnyH_take (i := 1) (oi := { dst := some 21, op := _, type := _, pos := _, after := _, guard := _ }) (v := ?_) rfl (by kernel_rfl) (by kernel_rfl) (by kernel_rfl) (fun _ _ _ h => h) (Or.inl ⟨by kernel_rfl, ?_⟩) (by assumption) ?_
      rotate_left
      · (intro w hSw; (try dsimp only at hSw); go_simp); all_goals (with_reducible rfl)
      try simp only [Act.put, List.setIfInBounds_toArray, List.set_cons_zero, List.set_cons_succ]
      refine wpAnyH_take (i := 2) (oi := { dst := some 22, op := _, type := _, pos := _, after := _, guard := _ }) (v := ?_) rfl (by kernel_rfl) (by kernel_rfl) (by kernel_rfl) (fun _ _ _ h => h) (Or.inl ⟨by kernel_rfl, ?_⟩) (by assumption) ?_
      rotate_left
      · (intro w hSw; (try dsimp only at hSw); go_simp); all_goals (with_reducible rfl)
      try simp only [Act.put, List.setIfInBounds_toArray, List.set_cons_zero, List.set_cons_succ]
      refine wpAnyH_take (i := 4) (oi := { dst := some 24, op := _, type := _, pos := _, after := _, guard := _ }) (v := ?_) rfl (by kernel_rfl) (by kernel_rfl) (by kernel_rfl) (fun _ _ _ h => h) (Or.inl ⟨by kernel_rfl, ?_⟩) (by assumption) ?_
      rotate_left
      · (intro w hSw; (try dsimp only at hSw); go_simp); all_goals (with_reducible rfl)
      try simp only [Act.put, List.setIfInBounds_toArray, List.set_cons_zero, List.set_cons_succ]
      refine wpAnyH_take (i := 5) (oi := { dst := some 25, op := _, type := _, pos := _, after := _, guard := _ }) (v := ?_) rfl (by kernel_rfl) (by kernel_rfl) (by kernel_rfl) (fun _ _ _ h => h) (Or.inl ⟨by kernel_rfl, ?_⟩) (by assumption) ?_
      rotate_left
      · (intro w hSw; (try dsimp only at hSw); go_simp); all_goals (with_reducible rfl)
      try simp only [Act.put, List.setIfInBounds_toArray, List.set_cons_zero, List.set_cons_succ]
      refine wpAnyH_ready (rs := [3, 6]) (by kernel_rfl) (by simp) ?_
      refine (AllReadyH.cons (o := { dst := some 23, op := _, type := _, pos := _, after := _, guard := _ }) rfl (fun K hK => ?_) (AllReadyH.cons (o := { dst := some 26, op := _, type := _, pos := _, after := _, guard := _ }) rfl (fun K hK => ?_) AllReadyH.nil))
      · rw [if_pos (by kernel_rfl)]
        go_wp2_with fail
        refine hK.out _ _ trivial (fun _ => ?_)
        clear hK K
        try simp only [Act.put, List.setIfInBounds_toArray, List.set_cons_zero, List.set_cons_succ]
        refine wpAnyH_ready (rs := [6]) (by kernel_rfl) (by simp) ?_
        refine (AllReadyH.cons (o := { dst := some 26, op := _, type := _, pos := _, after := _, guard := _ }) rfl (fun K hK => ?_) AllReadyH.nil)
        rw [if_pos (by kernel_rfl)]
        go_wp2_with fail
        refine hK.out _ _ trivial (fun _ => ?_)
        clear hK K
        try simp only [Act.put, List.setIfInBounds_toArray, List.set_cons_zero, List.set_cons_succ]
        refine wpAnyH_ready (rs := [7]) (by kernel_rfl) (by simp) ?_
        refine (AllReadyH.cons (o := { dst := some 27, op := _, type := _, pos := _, after := _, guard := _ }) rfl (fun K hK => ?_) AllReadyH.nil)
        rw [if_pos (by kernel_rfl)]
        go_wp2_with fail
        refine HST.out.mono ?_
        rintro e wn ⟨rfl, msn, rn, mn⟩
        rw [str_get] at rn
        have RN := Lib.hid rn
        have MN := Lib.hid (MD.out.trans mn)
        clear rn mn
        refine hK.out _ _ trivial (fun _ => ?_)
        clear hK K
        try simp only [Act.put, List.setIfInBounds_toArray, List.set_cons_zero, List.set_cons_succ]
        refine wpAnyH_done (by kernel_rfl) ?_ _
        go_wp2
        go_roundg (piece.length - (i + 1))
        case measure => omega
        case rel => exact ⟨i + 1, msn, by omega, by omega, by go_num, by rw [HSN.out]; exact RN.out, MN.out, by rw [HSN.out]; exact WN.out, by rw [HSN.out]; exact LN.out⟩
      · rw [if_pos (by kernel_rfl)]
        go_wp2_with fail
        refine hK.out _ _ trivial (fun _ => ?_)
        clear hK K
        try simp only [Act.put, List.setIfInBounds_toArray, List.set_cons_zero, List.set_cons_succ]
        refine wpAnyH_ready (rs := [3]) (by kernel_rfl) (by simp) ?_
        refine (AllReadyH.cons (o := { dst := some 23, op := _, type := _, pos := _, after := _, guard := _ }) rfl (fun K hK => ?_) AllReadyH.nil)
        rw [if_pos (by kernel_rfl)]
        go_wp2_with fail
        refine hK.out _ _ trivial (fun _ => ?_)
        clear hK K
        try simp only [Act.put, List.setIfInBounds_toArray, List.set_cons_zero, List.set_cons_succ]
        refine wpAnyH_ready (rs := [7]) (by kernel_rfl) (by simp) ?_
        refine (AllReadyH.cons (o := { dst := some 27, op := _, type := _, pos := _, after := _, guard := _ }) rfl (fun K hK => ?_) AllReadyH.nil)
        rw [if_pos (by kernel_rfl)]
        go_wp2_with fail
        refine HST.out.mono ?_
        rintro e wn ⟨rfl, msn, rn, mn⟩
        rw [str_get] at rn
        have RN := Lib.hid rn
        have MN := Lib.hid (MD.out.trans mn)
        clear rn mn
        refine hK.out _ _ trivial (fun _ => ?_)
        clear hK K
        try simp only [Act.put, List.setIfInBounds_toArray, List.set_cons_zero, List.set_cons_succ]
        refine wpAnyH_done (by kernel_rfl) ?_ _
        go_wp2
        go_roundg (piece.length - (i + 1))
        case measure => omega
        case rel => exact ⟨i + 1, msn, by omega, by omega, by go_num, by rw [HSN.out]; exact RN.out, MN.out, by rw [HSN.out]; exact WN.out, by rw [HSN.out]; exact LN.out⟩
    · have HE := Lib.hid (HEND.out (by
        by_cases h1 : i < piece.length
        · right
          cases hd : st.done with
          | true => rfl
          | false => exact absurd ⟨h1, hd⟩ hex
        · left; omega))
      obtain ⟨dn, hdn⟩ : ∃ x, st.done = x := ⟨_, rfl⟩
      rw [hdn] at q2
      obtain ⟨ao, co, rfl⟩ : ∃ a c, vo = .slice a qs.length c := by
        obtain ⟨xs, ok, h1, _⟩ := hI.outs
        exact row_form h1
      have q3 : wr.cell? ⟨rd, 3, none⟩ = some (.slice ao qs.length co) := cell_of_heap hI.box
      have f3 : wr.frozen? ⟨rd, 3, none⟩ = false := free_of_heap hI.box
      have HF := Lib.hid hI.fetch
      have HS := Lib.hid (hI.mvSet 3 (.slice none 0 0))
      have HOK := Lib.hid (fun b (hb : (Value.slice ao qs.length co).ownBlock = some b) => (hI.oO b hb).1)
      have hend : FeedOut0 w rd ms st qs (.returned (.slice ao qs.length co)) (wr.setCell ⟨rd, 3, none⟩ (.slice none 0 0)) := by
        obtain ⟨k1, K, k2, k3⟩ := HF.out
        refine ⟨_, _, K, rfl, ⟨_, _, _, _, k1⟩, ⟨(MX.out.trans HS.out).chg, fun b hb => MX.out.new b hb.1, MX.out.q⟩, k2, fun b hb => ⟨by have := (k3 b hb).1; simpa [World.setCell] using this, (k3 b hb).2.1, by have := (k3 b hb).2.2; rw [MX.out.q] at this; exact this⟩, fun b hb => MX.out.new b (HOK.out b hb)⟩
      have HEND2 := Lib.hid hend
      by_cases h1 : i < piece.length
      · have hltz : (i : Int) < (piece.length : Int) := by omega
        have hd : dn = true := by
          cases hd2 : dn with
          | true => rfl
          | false => exact absurd ⟨h1, hdn.trans hd2⟩ hex
        subst hd
        clear hI hend hex
        go_wp2_with fail
        go_ret
        rw [HE.out]
        exact HEND2.out
      · have hltz : (piece.length : Int) ≤ (i : Int) := by omega
        clear hI hend hex
        go_wp2_with fail
        go_ret
        rw [HE.out]
        exact HEND2.out

theorem feed_any {w : World} {rd : Nat} {ms : Own} {s : RS} {N : Nat} (piece : List UInt8) (h : RdrAt w rd ms s []) (hw : WF N s) (hN : N + piece.length ≤ 1000000000) :
    Calls Tryz.prog 16 #[.pointer (some ⟨rd, 0, none⟩), .string ⟨piece.toArray⟩] w (FeedOut w rd ms (s.feed piece).1 (s.feed piece).2) := by
  obtain ⟨vo, vl, vf, vb, hI⟩ := h
  have h0 : RdrAt w rd ⟨ms.p, fun b => ms b ∨ w.heap.size ≤ b⟩ s [] := ⟨_, _, _, _, hI.anew (o := ⟨ms.p, fun b => ms b ∨ w.heap.size ≤ b⟩) rfl (fun b hb => .inl hb) (fun b hb => .inr hb)⟩
  refine (feed_any0 piece h0 hw hN).mono ?_
  rintro e w' ⟨v, ms', K, rfl, ⟨vo', vl', vf', vb', h1⟩, h2, h3, h4, h5⟩
  refine ⟨v, ⟨ms'.p, ms.q⟩, K, rfl, ⟨_, _, _, _, h1.anew (o := ⟨ms'.p, ms.q⟩) rfl (fun b hb => ?_) (fun b hb => ?_)⟩, ⟨h2.chg, h2.new, rfl⟩, h3, h4, h5⟩
  · rcases h2.new b hb with x | x
    · exact hI.own.1 b x
    · exact hI.own.2 b x
  · exact hI.own.2 b (Nat.le_trans h2.chg.size hb)

end Go.Proofs.YtdilmefeofdkmaaGreatDoor
