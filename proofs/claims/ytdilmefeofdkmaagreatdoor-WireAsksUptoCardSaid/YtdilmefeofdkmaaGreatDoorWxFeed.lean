/-
  WIRE: the document's New and Feed.
-/
import Derived.Test.YtdilmefeofdkmaaGreatDoorWxByte
import Derived.Test.YtdilmefeofdkmaaGreatDoorWiAllLaw
namespace Go.Proofs.YtdilmefeofdkmaaGreatDoor
open Go.RowKit

/-- the document's Reader between two pieces: what it told last is of no account -/
structure IdleIn (w : World) (rd : Nat) (ms : Nat → Prop) (s : QS) (v0 vl vf vb : Value) : Prop where
  glob : Glob w
  box : w.heap[rd]? = some (.cells (s.cells rd v0 vl vf vb) 43 (0, 0))
  rdM : ms rd
  low : ∀ b, ms b → 8 ≤ b ∧ b < w.heap.size
  line : w.ownsRow 0 5 1 vl s.line.length (Lib.byteCells s.line)
  body : w.ownsRow 0 5 1 vb s.body.length (Lib.byteCells s.body)
  flds : w.ownsRow 0 58 2 vf s.fields.length (pairCells s.fields)
  oL : ∀ b, vl.ownBlock = some b → ms b ∧ b ≠ rd
  oB : ∀ b, vb.ownBlock = some b → ms b ∧ b ≠ rd
  oF : ∀ b, vf.ownBlock = some b → ms b ∧ b ≠ rd
  lb : Dj vl vb
  lf : Dj vl vf
  bf : Dj vb vf
section
variable {w w' : World} {rd : Nat} {ms : Nat → Prop} {s : QS} {out : List ReqV} {v0 vo vl vf vb : Value}
theorem RefIn.idle (h : RefIn w rd ms s out vo vl vf vb) : IdleIn w rd ms s vo vl vf vb := ⟨h.glob, h.box, h.rdM, h.low, h.line, h.body, h.flds, h.oL, h.oB, h.oF, h.lb, h.lf, h.bf⟩
theorem IdleIn.lt (h : IdleIn w rd ms s v0 vl vf vb) : rd < w.heap.size := (Array.getElem?_eq_some_iff.1 h.box).1
theorem IdleIn.size (h : IdleIn w rd ms s v0 vl vf vb) : 8 ≤ w.heap.size := by have := h.low rd h.rdM; omega
theorem IdleIn.kept {M : Nat → Prop} (h : IdleIn w rd ms s v0 vl vf vb) (hc : Chg w w' M) (hM : ∀ b, M b → 8 ≤ b) (hm : ∀ b, ms b → ¬ M b) : IdleIn w' rd ms s v0 vl vf vb where
  glob := h.glob.chg hc hM h.size
  box := (hc.block rd h.lt (hm rd h.rdM)).trans h.box
  rdM := h.rdM
  low := fun b hb => ⟨(h.low b hb).1, Nat.lt_of_lt_of_le (h.low b hb).2 hc.size⟩
  line := row_kept h.line fun g hg hl => hc.block g hl (hm g (h.oL g hg).1)
  body := row_kept h.body fun g hg hl => hc.block g hl (hm g (h.oB g hg).1)
  flds := row_kept h.flds fun g hg hl => hc.block g hl (hm g (h.oF g hg).1)
  oL := h.oL
  oB := h.oB
  oF := h.oF
  lb := h.lb
  lf := h.lf
  bf := h.bf
theorem IdleIn.later (h : IdleIn w rd ms s v0 vl vf vb) (hb : Below w.heap.size w w') : IdleIn w' rd ms s v0 vl vf vb :=
  h.kept (M := fun _ => False) (Chg.of_below hb) (fun _ x => x.elim) (fun _ _ x => x)
theorem IdleIn.start (h : IdleIn w rd ms s v0 vl vf vb) : RefIn (w.setCell ⟨rd, 15, none⟩ (.slice none 0 0)) rd ms s [] (.slice none 0 0) vl vf vb ∧ Xv w (w.setCell ⟨rd, 15, none⟩ (.slice none 0 0)) ms ms :=
  ⟨⟨⟨h.glob.chg (Chg.set w ⟨rd, 15, none⟩ (.slice none 0 0)) (fun b hb => by simp only at hb; rw [hb]; exact (h.low rd h.rdM).1) h.size, by rw [heap_set h.box]; rfl, ⟨[], fun _ => False, World.ownsRow_nil _ _ _ _, rfl, fun _ x => x.elim⟩, h.rdM, (fun b hb => by cases hb), fun b hb => by have := h.low b hb; simpa [World.setCell] using this⟩,
    row_kept h.line fun g hg _ => Below.heap_setCell _ _ _ _ (h.oL g hg).2, row_kept h.body fun g hg _ => Below.heap_setCell _ _ _ _ (h.oB g hg).2, row_kept h.flds fun g hg _ => Below.heap_setCell _ _ _ _ (h.oF g hg).2, h.oL, h.oB, h.oF, h.lb, h.lf, (Dj.nil _).symm, h.bf, (Dj.nil _).symm, (Dj.nil _).symm⟩,
    (Chg.set w ⟨rd, 15, none⟩ (.slice none 0 0)).mono (fun b _ e => by simp only at e; rw [e]; exact h.rdM), fun _ x => .inl x⟩
/-- what it told, as requests that are read -/
theorem RefIn.reqs (h : RefIn w rd ms s out vo vl vf vb) : ∃ K, ReqsAt w vo out K := by
  obtain ⟨xs, ok, h1, h2, _⟩ := h.outs
  exact ⟨fun b => ok b ∨ vo.ownBlock = some b, xs, h1, h2.kept (fun _ _ _ => rfl) (fun b _ x => .inl x), fun b hb => .inr hb⟩
end

set_option maxHeartbeats 2000000 in
set_option maxRecDepth 100000 in
theorem rNew_any (w : World) (hG : Glob w) : Calls Tryz.prog 18 #[] w fun e w' => e = .returned (.pointer (some ⟨w.heap.size, 0, none⟩)) ∧ RefAt w' w.heap.size (fun b => b = w.heap.size) qsZ [] ∧ Below w.heap.size w w' := by
  have h0 : RefO (w.alloc (.cells #[.int .i64 0, .int .i64 0, .int .i64 0, .bool false, .slice none 0 0, .slice none 0 0, .int .i64 0, .string ⟨#[]⟩, .string ⟨#[]⟩, .int .i64 0, .slice none 0 0, .string ⟨#[]⟩, .bool false, .int .i64 0, .bool false, .slice none 0 0, .bool false] 43)) w.heap.size (fun b => b = w.heap.size) ⟨0, 0, 0, false, [], [], 0, [], [], 0, [], 0, false⟩ [] (.slice none 0 0) (.slice none 0 0) (.slice none 0 0) (.slice none 0 0) :=
    ⟨hG.later (below_alloc (Below.refl _ _) (Nat.le_refl _) _), heap_alloc_new _ _, ⟨[], fun _ => False, World.ownsRow_nil _ _ _ _, rfl, fun _ x => x.elim⟩, rfl, (fun b hb => by cases hb), (fun b hb => by rw [hb]; exact ⟨hG.big, by simp⟩)⟩
  have HAN := Lib.hid (anew_any h0)
  clear h0
  go_enter Tryz.func18, Tryz.ntmps18
  go_wp2_with fail
  refine HAN.out.mono ?_
  rintro e w2 ⟨rfl, r2, m2⟩
  have R2 := Lib.hid r2
  have M2 := Lib.hid m2
  clear r2 m2
  go_wp2_with fail
  go_ret
  exact ⟨rfl, ⟨_, _, _, _, R2.out⟩, (below_alloc (Below.refl _ _) (Nat.le_refl _) _).trans (M2.out.below (by simp) fun b hb => by rw [hb]; exact Nat.le_refl _)⟩

theorem qfeed_snoc (s : QS) (l : List UInt8) (b : UInt8) (h : (s.feed l).1.done = false) : s.feed (l ++ [b]) = (((s.feed l).1.byte b).1, (s.feed l).2 ++ ((s.feed l).1.byte b).2) := by
  induction l generalizing s with
  | nil =>
    simp only [QS.feed, List.nil_append] at h ⊢
    rw [h]
    simp
  | cons a l ih =>
    unfold QS.feed at h
    simp only [List.cons_append]
    unfold QS.feed
    by_cases hd : s.done = true
    · rw [if_pos hd] at h
      rw [hd] at h
      cases h
    · rw [if_neg hd] at h
      simp only [hd, if_false, Bool.false_eq_true]
      simp only at h
      rw [ih _ h]
      simp [List.append_assoc]
theorem qfeed_stop (s : QS) (l m : List UInt8) (h : (s.feed l).1.done = true) : s.feed (l ++ m) = s.feed l := by
  induction l generalizing s with
  | nil =>
    simp only [QS.feed, List.nil_append] at h ⊢
    cases m with
    | nil => rfl
    | cons b m => simp only [QS.feed]; rw [if_pos h]
  | cons a l ih =>
    simp only [List.cons_append]
    unfold QS.feed at h ⊢
    by_cases hd : s.done = true
    · rw [if_pos hd, if_pos hd]
    · rw [if_neg hd] at h ⊢
      rw [if_neg hd]
      simp only at h ⊢
      rw [ih _ h]

/-- what the walk of a byte wants, where the two stand alike -/
theorem byte_sim {w : World} {rd : Nat} {ms : Nat → Prop} {q : QS} {s : RS} {out : List ReqV} {N : Nat} (h : RefAt w rd ms q out) (hS : Sim s q) (hw : WF N s) (hN : N ≤ 1000000000) (hd : s.done = false) (ho : out.length ≤ 1000000000) (b : UInt8) :
    Calls Tryz.prog 35 #[.pointer (some ⟨rd, 0, none⟩), .int .u8 b.toNat] w fun x w' => x = .returned (.tuple #[]) ∧ RfPost w rd ms (q.byte b).1 (out ++ (q.byte b).2) w' := by
  have hl := hS.live hd
  have hm := hl.mode
  have n1 := hw.h0; have n2 := hw.h1; have n3 := hw.line; have n4 := hw.body; have n5 := hw.flds; have n6 := hw.l1
  have hmi : q.minor = 0 ∨ q.minor = 1 := by
    cases he : s.mode <;> rw [he] at hm <;> simp only at hm
    · obtain ⟨_, _, _, _, _, _, _, _, h9, _⟩ := hm
      exact .inl h9
    · obtain ⟨_, _, _, _, _, h6⟩ := hm
      rw [h6.minor]; exact h6.mi
    · obtain ⟨_, _, _, _, h6⟩ := hm
      rw [h6.minor]; exact h6.mi
    · obtain ⟨_, _, h6⟩ := hm
      rw [h6.minor]; exact h6.mi
    · obtain ⟨_, _, _, _, h6⟩ := hm
      rw [h6.minor]; exact h6.mi
    · obtain ⟨_, _, h6⟩ := hm
      rw [h6.minor]; exact h6.mi
    · obtain ⟨_, _, h6⟩ := hm
      rw [h6.minor]; exact h6.mi
  refine rByte_any h b (by rw [hl.head]; exact n1) (by rw [hl.head]; omega) (fun hi => ?_) (fun hi => ?_) (by rw [hl.body]; omega) (by rw [hl.line]; omega) hmi (by rw [hl.fields]; omega) ho (fun f hf => by rw [hl.fields] at hf; have := hw.vals f hf; omega)
  · cases he : s.mode <;> rw [he] at hm <;> simp only at hm
    · obtain ⟨_, _, _, _, _, _, h7, _, _, _, _, h12⟩ := hm
      refine ⟨fun _ => ?_, fun _ => by rw [hl.fields]; exact h7⟩
      rcases h12 with ⟨_, k2, _, _⟩ | ⟨_, k2, _, k4, k5⟩ | ⟨_, k2, _⟩ <;> omega
    · obtain ⟨_, h2, _⟩ := hm
      exact ⟨(fun x => by rw [h2] at x; cases x), fun x => by rw [h2] at x; cases x⟩
    all_goals
      exfalso
      have := hm.1
      omega
  · cases he : s.mode <;> rw [he] at hm <;> simp only at hm
    · exfalso
      have := hm.1
      omega
    · exfalso
      have := hm.1
      omega
    · obtain ⟨_, h2, _, h4, _⟩ := hm
      omega
    · exfalso
      have := hm.1
      omega
    · obtain ⟨_, h2, _, h4, _⟩ := hm
      omega
    all_goals
      exfalso
      have := hm.1
      omega

set_option maxHeartbeats 4000000 in
set_option maxRecDepth 100000 in
theorem rFeed_any {w : World} {rd : Nat} {ms : Nat → Prop} {q : QS} {s : RS} {N : Nat} {v0 vl0 vf0 vb0 : Value} (piece : List UInt8) (h : IdleIn w rd ms q v0 vl0 vf0 vb0) (hS : Sim s q) (hw : WF N s) (hN : N + piece.length ≤ 1000000000) :
    Calls Tryz.prog 19 #[.pointer (some ⟨rd, 0, none⟩), .string ⟨piece.toArray⟩] w fun e w' => ∃ vo vl vf vb ms', e = .returned vo ∧ RefIn w' rd ms' (q.feed piece).1 (q.feed piece).2 vo vl vf vb ∧ Xv w w' ms ms' := by
  have K0 := Lib.hid h
  have q15 : w.cell? ⟨rd, 15, none⟩ = some v0 := cell_of_heap h.box
  have f15 : w.frozen? ⟨rd, 15, none⟩ = false := free_of_heap h.box
  have K1 := Lib.hid h.start.1
  have M1 := Lib.hid h.start.2
  have HSIM := Lib.hid (fun l => sim_feed (N := N) l hS hw)
  have HWF := Lib.hid (fun l => feed_wf l s N hw)
  have HLEN := Lib.hid (fun l => feed_len l s)
  clear h hS hw
  go_enter Tryz.func19, Tryz.ntmps19
  go_upto_region 2 with (fail)
  clear q15 f15 K0
  generalize w.setCell ⟨rd, 15, none⟩ (.slice none 0 0) = w1 at K1 M1 ⊢
  go_wp2
  go_loopg [5] piece.length (fun gg s5 wr => ∃ (i : Nat) (ms' : Nat → Prop), i ≤ piece.length ∧ piece.length - i ≤ gg ∧ s5 = .int .i64 i ∧ Hid (RefAt wr rd ms' (q.feed (piece.take i)).1 (q.feed (piece.take i)).2) ∧ Hid (Xv w wr ms ms'))
  case atStart => exact ⟨0, ms, Nat.zero_le _, by omega, rfl, ⟨_, _, _, _, K1.out⟩, M1.out⟩
  case round =>
    obtain ⟨i, msx, hin, hg, rfl, RX, MX⟩ := hrel
    have HEND : Hid ((i = piece.length ∨ (q.feed (piece.take i)).1.done = true) → q.feed piece = q.feed (piece.take i)) := fun hx => by
      rcases hx with rfl | hx
      · rw [List.take_length]
      · have := qfeed_stop q (piece.take i) (piece.drop i) hx
        rwa [List.take_append_drop] at this
    have HSN : Hid (i < piece.length → (q.feed (piece.take i)).1.done = false → q.feed (piece.take (i + 1)) = (((q.feed (piece.take i)).1.byte (piece.getD i 0)).1, (q.feed (piece.take i)).2 ++ ((q.feed (piece.take i)).1.byte (piece.getD i 0)).2)) := fun hl hd => by
      have := qfeed_snoc q (piece.take i) (piece.getD i 0) hd
      rw [← this]
      congr 1
      rw [List.take_add_one]
      simp [List.getD, hl]
    have HS1 := Lib.hid (HSIM.out (piece.take i))
    have HW1 : Hid (WF (N + i) (s.feed (piece.take i)).1) := by
      have := HWF.out (piece.take i)
      rw [List.length_take, Nat.min_eq_left hin] at this
      exact this
    have HL1 : Hid ((q.feed (piece.take i)).2.length ≤ i) := by
      show _ ≤ _
      have h1 := HLEN.out (piece.take i)
      rw [(HS1.out).2]
      rw [List.length_take] at h1
      omega
    generalize q.feed (piece.take i) = r at *
    generalize s.feed (piece.take i) = r0 at *
    obtain ⟨st, qs⟩ := r
    obtain ⟨s0, qs0⟩ := r0
    simp only at RX HEND HSN HS1 HW1 HL1
    obtain ⟨vo, vl, vf, vb, hI⟩ := RX.out
    have q14 : wr.cell? ⟨rd, 14, none⟩ = some (.bool st.done) := cell_of_heap hI.box
    obtain ⟨dn, hdn⟩ : ∃ x, st.done = x := ⟨_, rfl⟩
    rw [hdn] at q14 HEND HSN
    have HDN := Lib.hid (HS1.out.1.done.symm.trans hdn)
    clear hdn
    go_upto_region 3 with (fail)
    go_cut [19] (fun sx wx => sx = .bool (decide (i < piece.length) && !dn) ∧ wx = wr)
    case first =>
      by_cases hlt : i < piece.length
      · have hltz : (i : Int) < (piece.length : Int) := by omega
        have HD : Hid (decide (i < piece.length) = true) := decide_eq_true hlt
        clear hlt
        cases dn
        all_goals
          go_wp2_with fail
          go_meet
          case rel => exact ⟨by rw [HD.out]; rfl, rfl⟩
      · have hltz : (piece.length : Int) ≤ (i : Int) := by omega
        have HD : Hid (decide (i < piece.length) = false) := decide_eq_false hlt
        clear hlt
        go_wp2_with fail
        go_meet
        case rel => exact ⟨by rw [HD.out]; rfl, rfl⟩
    case rest =>
    obtain ⟨rfl, rfl⟩ := hcut
    obtain ⟨wr, rfl⟩ : ∃ wx : World, wx = wc := ⟨_, rfl⟩
    by_cases hex : (decide (i < piece.length) && !dn) = true
    · have hex2 := hex
      rw [Bool.and_eq_true, decide_eq_true_eq, Bool.not_eq_true'] at hex2
      obtain ⟨hlt, rfl⟩ := hex2
      have hltz : (i : Int) < (piece.length : Int) := by omega
      rw [hex]
      have hsn2 := HSN.out hlt rfl
      have HSN2 := Lib.hid hsn2
      clear hsn2 HSN
      have HST := Lib.hid (byte_sim RX.out HS1.out.1 HW1.out (by omega) HDN.out (by have := HL1.out; omega) ((⟨piece.toArray⟩ : ByteArray)[i]'(by simpa [ByteArray.size] using hlt)))
      clear hex hI RX q14
      go_wp2_with fail
      refine HST.out.mono ?_
      rintro e wn ⟨rfl, msn, rn, mn⟩
      rw [str_get] at rn
      have RN := Lib.hid rn
      have MN := Lib.hid (MX.out.trans mn)
      clear rn mn
      go_wp2
      go_roundg (piece.length - (i + 1))
      case measure => omega
      case rel => exact ⟨i + 1, msn, by omega, by omega, by go_num, by rw [HSN2.out]; exact RN.out, MN.out⟩
    · rw [Bool.not_eq_true] at hex
      have HE := Lib.hid (HEND.out (by
        by_cases hlt : i < piece.length
        · rw [decide_eq_true hlt, Bool.true_and, Bool.not_eq_false'] at hex
          exact .inr hex
        · exact .inl (by omega)))
      rw [hex]
      have q15 : wr.cell? ⟨rd, 15, none⟩ = some vo := cell_of_heap hI.box
      obtain ⟨ao, co, rfl⟩ : ∃ a c, vo = .slice a qs.length c := by
        obtain ⟨xs, ok, h1, _⟩ := hI.outs
        exact row_form h1
      have HI := Lib.hid hI
      clear hI RX q14 hex
      go_wp2
      go_ret
      rw [HE.out]
      exact ⟨_, _, _, _, _, rfl, HI.out, MX.out⟩

end Go.Proofs.YtdilmefeofdkmaaGreatDoor
