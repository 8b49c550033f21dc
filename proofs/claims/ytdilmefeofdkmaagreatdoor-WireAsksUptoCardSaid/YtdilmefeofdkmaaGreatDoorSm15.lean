/-
  SEVERAL SMALL TEXTS IN ONE.
-/
import Derived.Test.YtdilmefeofdkmaaGreatDoorWiField
import Derived.Test.YtdilmefeofdkmaaGreatDoorSm10
/-
  WIRE, plain: what holds of a Reader's numbers from byte to byte.
-/
namespace Go.Proofs.YtdilmefeofdkmaaGreatDoor

/-- the bounds: N grows with each byte -/
structure WF (N : Nat) (s : RS) : Prop where
  h0 : 0 ≤ s.head
  h1 : s.head ≤ 8001
  hd : s.done = false → s.head ≤ 8000
  b0 : 0 ≤ s.blanks
  b1 : s.blanks ≤ s.head
  t0 : 0 ≤ s.tgt
  t1 : s.tgt ≤ s.head
  l0 : -1 ≤ s.left
  l1 : s.left ≤ 65535
  lm : s.mode = .bytes ∨ s.mode = .chunk → 1 ≤ s.left
  line : s.line.length ≤ N
  body : s.body.length ≤ N
  flds : s.fields.length ≤ 50
  vals : ∀ f ∈ s.fields, f.2.length ≤ N

theorem WF.mono {N M : Nat} {s : RS} (h : WF N s) (hm : N ≤ M) : WF M s :=
  ⟨h.h0, h.h1, h.hd, h.b0, h.b1, h.t0, h.t1, h.l0, h.l1, h.lm, Nat.le_trans h.line hm, Nat.le_trans h.body hm, h.flds, fun f hf => Nat.le_trans (h.vals f hf) hm⟩
theorem WF.fail {N : Nat} {s : RS} (h : WF N s) (e : Int) : WF N (s.fail e) :=
  ⟨h.h0, h.h1, (fun x => by cases x), h.b0, h.b1, h.t0, h.t1, h.l0, h.l1, h.lm, h.line, h.body, h.flds, h.vals⟩
theorem WF.fail' {N : Nat} {s : RS} (h : WF N { s with done := true }) (e : Int) : WF N (s.fail e) :=
  ⟨h.h0, h.h1, (fun x => by cases x), h.b0, h.b1, h.t0, h.t1, h.l0, h.l1, h.lm, h.line, h.body, h.flds, h.vals⟩
theorem WF.begin (N : Nat) (s : RS) (d : Bool) : WF N { s.begin with done := d } :=
  ⟨by simp [RS.begin], by simp [RS.begin], fun _ => by simp [RS.begin], by simp [RS.begin], by simp [RS.begin], by simp [RS.begin], by simp [RS.begin], by simp [RS.begin], by simp [RS.begin], fun h => by simp [RS.begin] at h, by simp [RS.begin], by simp [RS.begin], by simp [RS.begin], fun f hf => by simp [RS.begin] at hf⟩
theorem WF.begin' (N : Nat) (s : RS) : WF N s.begin := WF.begin N s s.done
theorem WF.complete (N : Nat) (s : RS) : WF N s.complete.1 := WF.begin N s s.closes
theorem WF.put {N : Nat} {s : RS} (h : WF N s) (b : UInt8) : WF (N + 1) (s.put b) :=
  ⟨h.h0, h.h1, h.hd, h.b0, h.b1, h.t0, h.t1, h.l0, h.l1, h.lm, by have := h.line; simp [RS.put]; omega, Nat.le_succ_of_le h.body, h.flds, fun f hf => Nat.le_succ_of_le (h.vals f hf)⟩
theorem WF.line0 {N : Nat} {s : RS} (h : WF N s) : WF N { s with line := [] } :=
  ⟨h.h0, h.h1, h.hd, h.b0, h.b1, h.t0, h.t1, h.l0, h.l1, h.lm, by simp, h.body, h.flds, h.vals⟩
theorem WF.request {N : Nat} {s : RS} (h : WF N s) (hm : s.mode = .first) (line : List UInt8) : WF N { s.request line with mode := .field } := by
  have hx : s.request line = { (s.request line) with meth := (s.request line).meth } := rfl
  unfold RS.request
  simp only
  split
  · exact ⟨h.h0, h.h1, (fun x => by cases x), h.b0, h.b1, h.t0, h.t1, h.l0, h.l1, (fun x => by simp at x), h.line, h.body, h.flds, h.vals⟩
  · split
    · exact ⟨h.h0, h.h1, (fun x => by cases x), h.b0, h.b1, h.t0, h.t1, h.l0, h.l1, (fun x => by simp at x), h.line, h.body, h.flds, h.vals⟩
    · split
      · exact ⟨h.h0, h.h1, (fun x => by cases x), h.b0, h.b1, h.t0, h.t1, h.l0, h.l1, (fun x => by simp at x), h.line, h.body, h.flds, h.vals⟩
      · exact ⟨h.h0, h.h1, h.hd, h.b0, h.b1, h.t0, h.t1, h.l0, h.l1, (fun x => by simp at x), h.line, h.body, h.flds, h.vals⟩
theorem WF.counts {N : Nat} {s : RS} (h : WF N s) (hd : s.done = false) : WF N s.counts := by
  have h8 := h.hd hd
  have := h.h0; have := h.b1; have := h.t1
  unfold RS.counts
  split
  · exact ⟨(by show (0 : Int) ≤ s.head + 1; omega), (by show s.head + 1 ≤ 8001; omega), (fun x => by cases x), h.b0, (by show s.blanks ≤ s.head + 1; omega), h.t0, (by show s.tgt ≤ s.head + 1; omega), h.l0, h.l1, h.lm, h.line, h.body, h.flds, h.vals⟩
  · exact ⟨(by show (0 : Int) ≤ s.head + 1; omega), (by show s.head + 1 ≤ 8001; omega), (fun _ => by show s.head + 1 ≤ 8000; omega), h.b0, (by show s.blanks ≤ s.head + 1; omega), h.t0, (by show s.tgt ≤ s.head + 1; omega), h.l0, h.l1, h.lm, h.line, h.body, h.flds, h.vals⟩

theorem first_wf {N : Nat} {s : RS} (h : WF N s) (hd : s.done = false) (hm : s.mode = .first) (b : UInt8) : WF (N + 1) (s.first b) := by
  have hc := h.counts hd
  have hcm : s.counts.mode = .first := by unfold RS.counts; split <;> exact hm
  unfold RS.first
  simp only
  split
  · exact hc.mono (by omega)
  · rename_i h8
    have e : s.counts = { s with head := s.head + 1 } := by unfold RS.counts; rw [if_neg h8]
    split
    · split
      · exact WF.begin' _ _
      · exact (hc.line0.request hcm _).mono (by omega)
    · rw [e] at hc ⊢
      have hb0 := h.b0; have ht0 := h.t0
      have := h.b1; have := h.t1
      split
      · show WF (N + 1) (({ s with head := s.head + 1, blanks := s.blanks + 1 } : RS).put b)
        exact WF.put (s := { s with head := s.head + 1, blanks := s.blanks + 1 }) ⟨hc.h0, hc.h1, hc.hd, (by show (0 : Int) ≤ s.blanks + 1; omega), (by show s.blanks + 1 ≤ s.head + 1; omega), hc.t0, hc.t1, hc.l0, hc.l1, hc.lm, hc.line, hc.body, hc.flds, hc.vals⟩ b
      · split
        · split
          · show WF (N + 1) (({ s with head := s.head + 1, tgt := s.tgt + 1 } : RS).fail 66)
            exact WF.mono (N := N) ⟨hc.h0, hc.h1, (fun x => by cases x), hc.b0, hc.b1, (by show (0 : Int) ≤ s.tgt + 1; omega), (by show s.tgt + 1 ≤ s.head + 1; omega), hc.l0, hc.l1, hc.lm, hc.line, hc.body, hc.flds, hc.vals⟩ (by omega)
          · show WF (N + 1) (({ s with head := s.head + 1, tgt := s.tgt + 1 } : RS).put b)
            exact WF.put (s := { s with head := s.head + 1, tgt := s.tgt + 1 }) ⟨hc.h0, hc.h1, hc.hd, hc.b0, hc.b1, (by show (0 : Int) ≤ s.tgt + 1; omega), (by show s.tgt + 1 ≤ s.head + 1; omega), hc.l0, hc.l1, hc.lm, hc.line, hc.body, hc.flds, hc.vals⟩ b
        · exact hc.put b

theorem decL_nonneg {l : List UInt8} (h : allB l digB = true) (h10 : l.length ≤ 10) : 0 ≤ decL l := (atoi_dec h h10).2.1
theorem numL16_nonneg {L C : List (List UInt8)} (h : fitsL L C = true) : 0 ≤ numL16 L := by
  rcases L with _ | ⟨x, _ | ⟨y, r⟩⟩
  · exact Int.le_refl _
  · rw [fitsL_one] at h
    simp only [Bool.and_eq_true, decide_eq_true_eq] at h
    exact decL_nonneg h.1.2 h.1.1
  · exact Int.le_refl _
theorem ends_wf {N : Nat} {s : RS} (h : WF N s) : WF N s.ends.1 := by
  rw [ends_eq s rfl rfl rfl]
  split
  · exact h.fail 64
  · split
    · exact h.fail 69
    · split
      · exact h.fail 62
      · rename_i hf
        have hn := numL16_nonneg (by simpa using hf)
        split
        · exact h.fail 65
        · split
          · exact ⟨h.h0, h.h1, h.hd, h.b0, h.b1, h.t0, h.t1, by simp, by simp, (fun x => by simp at x), h.line, h.body, h.flds, h.vals⟩
          · split
            · exact WF.complete _ _
            · exact ⟨h.h0, h.h1, h.hd, h.b0, h.b1, h.t0, h.t1, by simp only; omega, by simp only; omega, fun _ => by simp only; omega, h.line, h.body, h.flds, h.vals⟩
theorem trimL_len (l : List UInt8) : (trimL l).length ≤ l.length := by
  unfold trimL
  refine Nat.le_trans (List.dropWhile_suffix _).length_le ?_
  rw [List.length_reverse]
  refine Nat.le_trans (List.dropWhile_suffix _).length_le ?_
  simp
theorem field_wf {N : Nat} {s : RS} (h : WF N s) (hd : s.done = false) (hm : s.mode = .field) (b : UInt8) : WF (N + 1) (s.field b).1 := by
  have hc := h.counts hd
  by_cases h8 : 8000 < s.head + 1
  · have : s.field b = (s.counts, []) := by unfold RS.field; simp only; rw [if_pos h8]
    rw [this]
    exact hc.mono (by omega)
  · have e : s.counts = { s with head := s.head + 1 } := by unfold RS.counts; rw [if_neg h8]
    by_cases hb : b = 10
    · rw [field_eq s b h8 hb rfl rfl]
      rw [e] at hc
      split
      · exact (ends_wf hc.line0).mono (by omega)
      · split
        · exact (hc.line0.fail 67).mono (by omega)
        · rename_i h50
          split
          · exact (hc.line0.fail 61).mono (by omega)
          · refine ⟨hc.h0, hc.h1, hc.hd, hc.b0, hc.b1, hc.t0, hc.t1, hc.l0, hc.l1, hc.lm, by simp, Nat.le_succ_of_le hc.body, by have := hc.flds; simp only [List.length_append, List.length_cons, List.length_nil] at *; omega, fun f hf => ?_⟩
            rcases List.mem_append.1 hf with hf | hf
            · exact Nat.le_succ_of_le (hc.vals f hf)
            · rw [List.mem_singleton] at hf
              subst hf
              have h1 := trimL_len (cutAt 58 (trimCR s.line)).2.1
              have h2 := (cutAt_len 58 (trimCR s.line)).2
              have h3 := trimCR_len s.line
              have h4 := h.line
              show (trimL (cutAt 58 (trimCR s.line)).2.1).length ≤ N + 1
              omega
    · have : s.field b = (s.counts.put b, []) := by unfold RS.field; simp only; rw [if_neg h8, if_pos hb]
      rw [this]
      exact hc.put b
theorem chunkLine_wf {N : Nat} {s : RS} (h : WF N s) (b : UInt8) : WF (N + 1) (s.chunkLine b).1 := by
  unfold RS.chunkLine
  split
  · exact h.line0.mono (by omega)
  · split
    · exact (h.put b).fail 63
    · exact h.put b
theorem chunkLine_mode (s : RS) (b : UInt8) : (s.chunkLine b).1.mode = s.mode := by
  unfold RS.chunkLine
  split
  · rfl
  · split <;> rfl
theorem bytes_wf {N : Nat} {s : RS} (h : WF N s) (hm : s.mode = .bytes) (b : UInt8) : WF (N + 1) (s.bytes b).1 := by
  have hl := h.lm (.inl hm)
  unfold RS.bytes
  simp only
  split
  · exact WF.complete _ _
  · exact ⟨h.h0, h.h1, h.hd, h.b0, h.b1, h.t0, h.t1, by simp only; omega, by have := h.l1; simp only; omega, fun _ => by simp only; omega, Nat.le_succ_of_le h.line, by have := h.body; simp; omega, h.flds, fun f hf => Nat.le_succ_of_le (h.vals f hf)⟩
theorem chunk_wf {N : Nat} {s : RS} (h : WF N s) (hm : s.mode = .chunk) (b : UInt8) : WF (N + 1) (s.chunk b) := by
  have hl := h.lm (.inr hm)
  unfold RS.chunk
  simp only
  split
  · exact ⟨h.h0, h.h1, h.hd, h.b0, h.b1, h.t0, h.t1, by simp, by simp, (fun x => by simp at x), Nat.le_succ_of_le h.line, by have := h.body; simp; omega, h.flds, fun f hf => Nat.le_succ_of_le (h.vals f hf)⟩
  · exact ⟨h.h0, h.h1, h.hd, h.b0, h.b1, h.t0, h.t1, by simp only; omega, by have := h.l1; simp only; omega, fun _ => by simp only; omega, Nat.le_succ_of_le h.line, by have := h.body; simp; omega, h.flds, fun f hf => Nat.le_succ_of_le (h.vals f hf)⟩
theorem chunkEnd_wf {N : Nat} {s : RS} (h : WF N s) (b : UInt8) : WF (N + 1) (s.chunkEnd b) := by
  unfold RS.chunkEnd
  split
  · exact ⟨h.h0, h.h1, h.hd, h.b0, h.b1, h.t0, h.t1, h.l0, h.l1, (fun x => by simp at x), by simp, Nat.le_succ_of_le h.body, h.flds, fun f hf => Nat.le_succ_of_le (h.vals f hf)⟩
  · split
    · exact h.put b
    · exact (h.fail 63).mono (by omega)
theorem last_wf {N : Nat} {s : RS} (h : WF N s) (b : UInt8) : WF (N + 1) (s.last b).1 := by
  have hc := chunkLine_wf h b
  unfold RS.last
  split
  · rename_i t hr; rw [hr] at hc; exact hc
  · rename_i t line hr
    rw [hr] at hc
    split
    · exact WF.fail hc 63
    · exact WF.complete _ _
theorem size_wf {N : Nat} {s : RS} (h : WF N s) (b : UInt8) : WF (N + 1) (s.size b) := by
  have hc := chunkLine_wf h b
  obtain ⟨r, hr⟩ : ∃ r, s.chunkLine b = r := ⟨_, rfl⟩
  rw [hr] at hc
  obtain ⟨t, o⟩ := r
  simp only at hc
  cases o with
  | none => rw [size_none hr]; exact hc
  | some line =>
    rw [size_some hr rfl]
    split
    · exact hc.fail 63
    · rename_i hbad
      have hv : 0 ≤ hexL (cutAt 59 line).1 ∧ hexL (cutAt 59 line).1 ≤ 65535 := by
        simp only [Bool.not_eq_true, Bool.or_eq_false_iff] at hbad
        obtain ⟨⟨k1, k2⟩, _⟩ := hbad
        exact pw16_bd _ 0 _ (by omega) (by omega) (pw16_hexL (by simpa using k1) (by have := of_decide_eq_false k2; omega))
      split
      · exact hc.fail 65
      · split
        · exact ⟨hc.h0, hc.h1, hc.hd, hc.b0, hc.b1, hc.t0, hc.t1, hc.l0, hc.l1, (fun x => by simp at x), hc.line, hc.body, hc.flds, hc.vals⟩
        · exact ⟨hc.h0, hc.h1, hc.hd, hc.b0, hc.b1, hc.t0, hc.t1, by simp only; omega, by simp only; omega, fun _ => by simp only; omega, hc.line, hc.body, hc.flds, hc.vals⟩

theorem step_wf {N : Nat} {s : RS} (h : WF N s) (hd : s.done = false) (b : UInt8) : WF (N + 1) (s.step b).1 := by
  unfold RS.step
  split
  · rename_i hm; exact first_wf h hd hm b
  · rename_i hm; exact field_wf h hd hm b
  · rename_i hm; exact bytes_wf h hm b
  · exact size_wf h b
  · rename_i hm; exact chunk_wf h hm b
  · exact chunkEnd_wf h b
  · exact last_wf h b
theorem ends_len (s : RS) : s.ends.2.length ≤ 1 := by
  rw [ends_eq s rfl rfl rfl]
  repeat' split
  all_goals first | exact Nat.le_refl _ | exact Nat.zero_le _
theorem step_len (s : RS) (b : UInt8) : (s.step b).2.length ≤ 1 := by
  unfold RS.step
  split
  · exact Nat.zero_le _
  · unfold RS.field
    simp only
    repeat' split
    all_goals first | exact Nat.zero_le _ | exact ends_len _
  · unfold RS.bytes
    simp only
    split
    · exact Nat.le_refl _
    · exact Nat.zero_le _
  · exact Nat.zero_le _
  · exact Nat.zero_le _
  · exact Nat.zero_le _
  · unfold RS.last
    repeat' split
    all_goals first | exact Nat.zero_le _ | exact Nat.le_refl _
theorem feed_snoc (s : RS) (l : List UInt8) (b : UInt8) (h : (s.feed l).1.done = false) : s.feed (l ++ [b]) = (((s.feed l).1.step b).1, (s.feed l).2 ++ ((s.feed l).1.step b).2) := by
  rw [feed_append]
  simp [RS.feed, h]
theorem feed_stop (s : RS) (l m : List UInt8) (h : (s.feed l).1.done = true) : s.feed (l ++ m) = s.feed l := by
  rw [feed_append, feed_done h]
  simp

end Go.Proofs.YtdilmefeofdkmaaGreatDoor

/-
  WIRE, plain: behind a fault, and behind a request that ends the connection, nothing is told.
-/
namespace Go.Proofs.YtdilmefeofdkmaaGreatDoor

theorem complete_close (s : RS) : ∀ q ∈ s.complete.2, q.close = s.complete.1.done := by
  intro q hq
  unfold RS.complete at hq ⊢
  simp only [List.mem_singleton] at hq
  rw [hq]
  rfl
theorem ends_close (s : RS) : ∀ q ∈ s.ends.2, q.close = s.ends.1.done := by
  unfold RS.ends
  simp only
  repeat' split
  all_goals first
    | exact complete_close s
    | (intro q hq; cases hq)
theorem step_close (s : RS) (b : UInt8) : ∀ q ∈ (s.step b).2, q.close = (s.step b).1.done := by
  unfold RS.step
  cases hm : s.mode <;> simp only
  · intro q hq; cases hq
  · unfold RS.field
    simp only
    repeat' split
    all_goals first
      | exact ends_close _
      | (intro q hq; cases hq)
  · unfold RS.bytes
    simp only
    split
    · exact complete_close _
    · intro q hq; cases hq
  · intro q hq; cases hq
  · intro q hq; cases hq
  · intro q hq; cases hq
  · unfold RS.last
    generalize s.chunkLine b = r
    obtain ⟨t, o⟩ := r
    cases o with
    | none => intro q hq; cases hq
    | some line =>
      simp only
      split
      · intro q hq; cases hq
      · exact complete_close _

/-- a request that closes is the last, and the Reader is done -/
theorem feed_close : ∀ (l : List UInt8) (s : RS) (k : Nat) (q : ReqV), (s.feed l).2[k]? = some q → q.close = true → k + 1 = (s.feed l).2.length ∧ (s.feed l).1.done = true
  | [], s, k, q, h, _ => by simp [RS.feed] at h
  | b :: l, s, k, q, h, hc => by
    unfold RS.feed at h ⊢
    split at h
    · simp at h
    · rename_i hd
      rw [if_neg hd]
      simp only at h ⊢
      have h1 := step_len s b
      have h2 := step_close s b
      by_cases hk : k < (s.step b).2.length
      · rw [List.getElem?_append_left hk] at h
        have hm := h2 q (List.mem_of_getElem? h)
        rw [hc] at hm
        rw [feed_done hm.symm]
        exact ⟨by rw [List.append_nil]; omega, hm.symm⟩
      · rw [List.getElem?_append_right (by omega)] at h
        obtain ⟨i1, i2⟩ := feed_close l (s.step b).1 _ q h hc
        exact ⟨by rw [List.length_append]; omega, i2⟩

theorem complete_fault (s : RS) (h : s.fault = 0) : s.complete.1.fault = 0 := h
theorem ends_fault (s : RS) (h : s.fault = 0) : s.ends.1.done = false → s.ends.1.fault = 0 := by
  unfold RS.ends
  simp only
  repeat' split
  all_goals first
    | exact fun _ => h
    | (intro x; cases x)
theorem step_fault (s : RS) (b : UInt8) (h : s.fault = 0) : (s.step b).1.done = false → (s.step b).1.fault = 0 := by
  have hc : s.counts.done = false → s.counts.fault = 0 := by
    unfold RS.counts
    split
    · intro x; cases x
    · exact fun _ => h
  unfold RS.step
  cases hm : s.mode <;> simp only
  · unfold RS.first RS.counts
    simp only
    repeat' split
    all_goals first
      | (intro x; cases x; done)
      | exact fun _ => h
      | skip
    all_goals
      unfold RS.request
      simp only
      repeat' split
      all_goals first
        | (intro x; cases x; done)
        | exact fun _ => h
  · unfold RS.field RS.counts
    simp only
    repeat' split
    all_goals first
      | (intro x; cases x; done)
      | exact fun _ => h
      | exact ends_fault _ h
  · unfold RS.bytes
    simp only
    split <;> exact fun _ => h
  · unfold RS.size RS.chunkLine
    by_cases hb : b = 10
    · simp only [if_pos hb]
      repeat' split
      all_goals first
        | (intro x; cases x; done)
        | exact fun _ => h
    · simp only [if_neg hb]
      by_cases hl : 200 < s.line.length + 1
      · simp only [if_pos hl]; intro x; cases x
      · simp only [if_neg hl]; exact fun _ => h
  · unfold RS.chunk
    simp only
    split <;> exact fun _ => h
  · unfold RS.chunkEnd
    repeat' split
    all_goals first
      | (intro x; cases x; done)
      | exact fun _ => h
  · unfold RS.last RS.chunkLine
    by_cases hb : b = 10
    · simp only [if_pos hb]
      repeat' split
      all_goals first
        | (intro x; cases x; done)
        | exact fun _ => h
    · simp only [if_neg hb]
      by_cases hl : 200 < s.line.length + 1
      · simp only [if_pos hl]; intro x; cases x
      · simp only [if_neg hl]; exact fun _ => h
theorem feed_fault : ∀ (l : List UInt8) (s : RS), (s.done = false → s.fault = 0) → (s.feed l).1.done = false → (s.feed l).1.fault = 0
  | [], s, h => h
  | b :: l, s, h => by
    unfold RS.feed
    split
    · exact h
    · rename_i hd
      exact feed_fault l (s.step b).1 (step_fault s b (h (by simpa using hd)))

end Go.Proofs.YtdilmefeofdkmaaGreatDoor

/-
  WIRE: Ask, in plain Lean; the plain law of WireBack.
-/
namespace Go.Proofs.YtdilmefeofdkmaaGreatDoor

/-- a field that Ask adds itself -/
def keptB (f : List UInt8 × List UInt8) : Bool := f.1 == longL || f.1 == codingL || f.1 == connL
def addLen (body : List UInt8) : List (List UInt8 × List UInt8) := if body = [] then [] else [(longL, Lib.itoa body.length)]
def addConn (close : Bool) (minor : Int) : List (List UInt8 × List UInt8) := if close then (if minor = 1 then [(connL, closeL)] else []) else (if minor = 0 then [(connL, aliveL)] else [])
/-- a request as it is read when Ask has written it -/
def fullV (r : ReqV) : ReqV := { r with fields := r.fields ++ addLen r.body ++ addConn r.close r.minor }
def http1L : List UInt8 := [32, 72, 84, 84, 80, 47, 49, 46]
/-- a first line -/
def askHead (r : ReqV) : List UInt8 := r.meth ++ [32] ++ r.target ++ http1L ++ Lib.itoa r.minor ++ [13, 10]
/-- the text of a request -/
def askT (r : ReqV) : List UInt8 := askHead r ++ (fullV r).fields.flatMap fieldT ++ [13, 10] ++ r.body
def backOK (r : ReqV) : Bool := decide ((rsZ.feed (askT r)).2 = [fullV r]) && decide ((rsZ.feed (askT r)).1.fault = 0) && decide ((rsZ.feed (askT r)).1.held = 0)
def askOK (r : ReqV) : Bool := (r.minor == 0 || r.minor == 1) && !r.fields.any keptB && backOK r

theorem decL_snocA (l : List UInt8) (b : UInt8) : decL (l ++ [b]) = 10 * decL l + ((b.toNat : Int) - 48) := by simp [decL]
theorem dec_digits : ∀ n : Nat, decL (Lib.decDigits n) = n ∧ (Lib.decDigits n).all digB = true := by
  intro n
  induction n using Nat.strongRecOn with
  | ind n ih =>
    rw [Lib.decDigits]
    by_cases h : n < 10
    · rw [dif_pos h]
      have : ∀ d : Fin 10, decL [UInt8.ofNat (48 + d.val)] = (d.val : Int) ∧ ([UInt8.ofNat (48 + d.val)] : List UInt8).all digB = true := by decide
      exact this ⟨n, h⟩
    · rw [dif_neg h]
      obtain ⟨i1, i2⟩ := ih (n / 10) (by omega)
      have : ∀ d : Fin 10, ((UInt8.ofNat (48 + d.val)).toNat : Int) = 48 + (d.val : Int) ∧ digB (UInt8.ofNat (48 + d.val)) = true := by decide
      obtain ⟨k1, k2⟩ := this ⟨n % 10, by omega⟩
      simp only at k1 k2
      refine ⟨?_, ?_⟩
      · rw [decL_snocA, i1, k1]; omega
      · rw [List.all_append, i2, Bool.true_and, List.all_cons, k2]; rfl

/-- how a byte leaves a Reader that is at no fault -/
def StepOK (r : RS × List ReqV) : Prop := r.1.fault ≠ 0 ∨ (∃ q, r.2 = [q] ∧ q.close = r.1.done ∧ r.1 = { rsZ with done := q.close }) ∨ (r.2 = [] ∧ r.1.done = false ∧ r.1.fault = 0 ∧ (r.1 = rsZ ∨ 0 < r.1.head))
theorem StepOK.fail (s : RS) (e : Int) (l : List ReqV) (h : e ≠ 0) : StepOK (s.fail e, l) := .inl h
theorem StepOK.complete (s : RS) (h : s.fault = 0) : StepOK s.complete := by
  refine .inr (.inl ⟨s.req, rfl, rfl, ?_⟩)
  show ({ s.begin with done := s.closes } : RS) = { rsZ with done := s.closes }
  unfold RS.begin
  simp only [h]
  rfl
theorem ends_ok (s : RS) (hd : s.done = false) (hf : s.fault = 0) (hh : 0 < s.head) : StepOK s.ends := by
  unfold RS.ends
  simp only
  repeat' split
  all_goals first
    | exact StepOK.fail _ _ _ (by decide)
    | exact StepOK.complete _ hf
    | exact .inr (.inr ⟨rfl, hd, hf, .inr hh⟩)
theorem step_ok (s : RS) (b : UInt8) (hd : s.done = false) (hf : s.fault = 0) (hs : s = rsZ ∨ 0 < s.head) : StepOK (s.step b) := by
  have hh : 0 < s.head + 1 := by
    rcases hs with rfl | h
    · decide
    · omega
  have hp : s.mode ≠ .first → 0 < s.head := fun h => by
    rcases hs with rfl | h
    · exact absurd rfl h
    · assumption
  unfold RS.step
  cases hm : s.mode <;> simp only
  · unfold RS.first RS.counts
    simp only
    by_cases c0 : 8000 < s.head + 1
    · simp only [if_pos c0]; exact StepOK.fail _ _ _ (by decide)
    simp only [if_neg c0]
    split
    · split
      · refine .inr (.inr ⟨rfl, hd, hf, .inl ?_⟩)
        unfold RS.begin
        simp only [hf, hd]
        rfl
      · unfold RS.request
        simp only
        repeat' split
        all_goals first
          | exact StepOK.fail _ _ _ (by decide)
          | exact .inr (.inr ⟨rfl, hd, hf, .inr hh⟩)
          | exact .inl (by simp [RS.fail])
    · repeat' split
      all_goals first
        | exact StepOK.fail _ _ _ (by decide)
        | exact .inr (.inr ⟨rfl, hd, hf, .inr hh⟩)
  · unfold RS.field RS.counts
    simp only
    by_cases c0 : 8000 < s.head + 1
    · simp only [if_pos c0]; exact StepOK.fail _ _ _ (by decide)
    simp only [if_neg c0]
    repeat' split
    all_goals first
      | exact StepOK.fail _ _ _ (by decide)
      | exact .inr (.inr ⟨rfl, hd, hf, .inr hh⟩)
      | exact ends_ok _ hd hf hh
  · unfold RS.bytes
    simp only
    split
    · exact StepOK.complete _ hf
    · exact .inr (.inr ⟨rfl, hd, hf, .inr (hp (by rw [hm]; decide))⟩)
  · have h0 := hp (by rw [hm]; decide)
    unfold RS.size RS.chunkLine
    by_cases hb : b = 10
    · simp only [if_pos hb]
      repeat' split
      all_goals first
        | exact StepOK.fail _ _ _ (by decide)
        | exact .inr (.inr ⟨rfl, hd, hf, .inr h0⟩)
    · simp only [if_neg hb]
      by_cases hl : 200 < s.line.length + 1
      · simp only [if_pos hl]; exact StepOK.fail _ _ _ (by decide)
      · simp only [if_neg hl]; exact .inr (.inr ⟨rfl, hd, hf, .inr h0⟩)
  · have h0 := hp (by rw [hm]; decide)
    unfold RS.chunk
    simp only
    split <;> exact .inr (.inr ⟨rfl, hd, hf, .inr h0⟩)
  · have h0 := hp (by rw [hm]; decide)
    unfold RS.chunkEnd
    repeat' split
    all_goals first
      | exact StepOK.fail _ _ _ (by decide)
      | exact .inr (.inr ⟨rfl, hd, hf, .inr h0⟩)
  · have h0 := hp (by rw [hm]; decide)
    unfold RS.last RS.chunkLine
    by_cases hb : b = 10
    · simp only [if_pos hb]
      repeat' split
      all_goals first
        | exact StepOK.fail _ _ _ (by decide)
        | exact StepOK.complete _ hf
    · simp only [if_neg hb]
      by_cases hl : 200 < s.line.length + 1
      · simp only [if_pos hl]; exact StepOK.fail _ _ _ (by decide)
      · simp only [if_neg hl]; exact .inr (.inr ⟨rfl, hd, hf, .inr h0⟩)
/-- fed without a fault -/
theorem feed_ok : ∀ (l : List UInt8) (s : RS), s.done = false → s.fault = 0 → (s = rsZ ∨ 0 < s.head) → (s.feed l).1.fault = 0 → ((s.feed l).1.done = true ∧ ∃ q ∈ (s.feed l).2, q.close = true) ∨ ((s.feed l).1.done = false ∧ ((s.feed l).1 = rsZ ∨ 0 < (s.feed l).1.head))
  | [], s, hd, _, hs, _ => .inr ⟨hd, hs⟩
  | b :: l, s, hd, hf, hs, hF => by
    have hk := step_ok s b hd hf hs
    unfold RS.feed at hF ⊢
    rw [if_neg (by rw [hd]; decide)] at hF ⊢
    simp only at hF ⊢
    rcases hk with h | ⟨q, h1, h2, h3⟩ | ⟨h1, h2, h3, h4⟩
    · exfalso
      have hdn : (s.step b).1.done = true := by
        cases hx : (s.step b).1.done
        · exact absurd (step_fault s b hf hx) h
        · rfl
      rw [feed_done hdn] at hF
      exact h hF
    · cases hc : q.close
      · have h4 : (s.step b).1 = rsZ := by rw [h3, hc]; rfl
        rw [h4] at hF ⊢
        rcases feed_ok l rsZ rfl rfl (.inl rfl) hF with ⟨k1, q', k2, k3⟩ | k
        · exact .inl ⟨k1, q', List.mem_append_right _ k2, k3⟩
        · exact .inr k
      · have hdn : (s.step b).1.done = true := by rw [← h2, hc]
        rw [feed_done hdn]
        exact .inl ⟨hdn, q, by simp [h1], hc⟩
    · rcases feed_ok l _ h2 h3 h4 hF with ⟨k1, q', k2, k3⟩ | k
      · exact .inl ⟨k1, q', List.mem_append_right _ k2, k3⟩
      · exact .inr k
theorem zero_of_held {s : RS} (hd : s.done = false) (h0 : s.held = 0) (hs : s = rsZ ∨ 0 < s.head) : s = rsZ := by
  rcases hs with h | h
  · exact h
  · exfalso
    unfold RS.held at h0
    rw [hd] at h0
    simp only [Bool.false_eq_true, if_false] at h0
    split at h0 <;> omega
/-- what a Reader that fed on what Ask wrote tells -/
theorem ask_fed {r : ReqV} (h : askOK r = true) : (rsZ.feed (askT r)).2 = [fullV r] ∧ (rsZ.feed (askT r)).1.fault = 0 ∧ (if r.close then (rsZ.feed (askT r)).1.done = true else (rsZ.feed (askT r)).1 = rsZ) := by
  unfold askOK backOK at h
  simp only [Bool.and_eq_true, decide_eq_true_eq] at h
  obtain ⟨_, ⟨h1, h2⟩, h3⟩ := h
  refine ⟨h1, h2, ?_⟩
  cases hc : r.close
  · simp only [Bool.false_eq_true, if_false]
    rcases feed_ok (askT r) rsZ rfl rfl (.inl rfl) h2 with ⟨_, q, k2, k3⟩ | ⟨k1, k2⟩
    · rw [h1] at k2
      have : q = fullV r := by simpa using k2
      rw [this] at k3
      have : r.close = true := k3
      rw [hc] at this; cases this
    · exact zero_of_held k1 h3 k2
  · simp only [if_true]
    exact (feed_close (askT r) rsZ 0 (fullV r) (by rw [h1]; rfl) hc).2

/-- what is wanted of the requests so far; and whether the connection has ended -/
def backStep {α : Type} (p : List UInt8 × List (ReqV × α) × Bool) (r : ReqV × α) : List UInt8 × List (ReqV × α) × Bool :=
  if askOK r.1 then (p.1 ++ askT r.1, if p.2.2 then p.2.1 else p.2.1 ++ [r], p.2.2 || r.1.close) else p
def backL {α : Type} (l : List (ReqV × α)) : List UInt8 × List (ReqV × α) × Bool := l.foldl backStep ([], [], false)
theorem backL_take {α : Type} (l : List (ReqV × α)) {i : Nat} {r : ReqV × α} (h : l[i]? = some r) : backL (l.take (i + 1)) = backStep (backL (l.take i)) r := by
  unfold backL
  rw [List.take_add_one, h]
  simp
structure BackOK {α : Type} (p : List UInt8 × List (ReqV × α) × Bool) : Prop where
  out : (rsZ.feed p.1).2 = p.2.1.map fun x => fullV x.1
  fault : (rsZ.feed p.1).1.fault = 0
  st : if p.2.2 then (rsZ.feed p.1).1.done = true else (rsZ.feed p.1).1 = rsZ
theorem BackOK.step {α : Type} {p : List UInt8 × List (ReqV × α) × Bool} (h : BackOK p) (r : ReqV × α) : BackOK (backStep p r) := by
  unfold backStep
  split
  · rename_i hr
    obtain ⟨k1, k2, k3⟩ := ask_fed hr
    obtain ⟨T, W, c⟩ := p
    obtain ⟨h1, h2, h3⟩ := h
    simp only at h1 h2 h3
    cases c
    · simp only [Bool.false_eq_true, if_false, Bool.false_or] at h3 ⊢
      have e := feed_append T (askT r.1) rsZ
      rw [h3] at e
      have e1 := congrArg Prod.fst e
      have e2 := congrArg Prod.snd e
      simp only at e1 e2
      refine ⟨?_, ?_, ?_⟩
      · simp only
        rw [e2, h1, k1]
        simp
      · simp only
        rw [e1, k2]
      · simp only
        rw [e1]
        exact k3
    · simp only [if_true, Bool.true_or] at h3 ⊢
      have e := feed_stop rsZ T (askT r.1) h3
      exact ⟨by simp only; rw [e]; exact h1, by simp only; rw [e]; exact h2, by simp only [if_true]; rw [e]; exact h3⟩
  · exact h
theorem back_ok {α : Type} (l : List (ReqV × α)) : BackOK (backL l) := by
  have : ∀ (l : List (ReqV × α)) (p : List UInt8 × List (ReqV × α) × Bool), BackOK p → BackOK (l.foldl backStep p) := by
    intro l
    induction l with
    | nil => intro p h; exact h
    | cons r l ih => intro p h; exact ih _ (h.step r)
  exact this l _ ⟨rfl, rfl, rfl⟩
theorem BackOK.held {α : Type} {p : List UInt8 × List (ReqV × α) × Bool} (h : BackOK p) : (rsZ.feed p.1).1.held = 0 := by
  have := h.st
  split at this
  · unfold RS.held; rw [this]; rfl
  · rw [this]; rfl
/-- what is wanted is of the requests, and no more -/
theorem back_mem {α : Type} (l : List (ReqV × α)) : (∀ p ∈ (backL l).2.1, p ∈ l) ∧ (backL l).2.1.length ≤ l.length ∧ (backL l).1.length ≤ (l.map fun p => (askT p.1).length).sum := by
  have : ∀ (l : List (ReqV × α)) (p : List UInt8 × List (ReqV × α) × Bool), (∀ x ∈ (l.foldl backStep p).2.1, x ∈ p.2.1 ∨ x ∈ l) ∧ (l.foldl backStep p).2.1.length ≤ p.2.1.length + l.length ∧ (l.foldl backStep p).1.length ≤ p.1.length + (l.map fun p => (askT p.1).length).sum := by
    intro l
    induction l with
    | nil => intro p; exact ⟨fun x h => .inl h, by simp, by simp⟩
    | cons r l ih =>
      intro p
      obtain ⟨i1, i2, i3⟩ := ih (backStep p r)
      have e : (∀ x ∈ (backStep p r).2.1, x ∈ p.2.1 ∨ x = r) ∧ (backStep p r).2.1.length ≤ p.2.1.length + 1 ∧ (backStep p r).1.length ≤ p.1.length + (askT r.1).length := by
        unfold backStep
        split
        · refine ⟨fun x hx => ?_, ?_, by simp⟩
          · simp only at hx
            split at hx
            · exact .inl hx
            · rcases List.mem_append.1 hx with h | h
              · exact .inl h
              · exact .inr (List.mem_singleton.1 h)
          · simp only
            split <;> simp
        · exact ⟨fun x hx => .inl hx, by omega, by omega⟩
      refine ⟨fun x hx => ?_, ?_, ?_⟩
      · rcases i1 x hx with h | h
        · rcases e.1 x h with h | h
          · exact .inl h
          · exact .inr (by rw [h]; simp)
        · exact .inr (by simp [h])
      · simp only [List.foldl_cons, List.length_cons]
        have := e.2.1
        omega
      · simp only [List.foldl_cons, List.map_cons, List.sum_cons]
        have := e.2.2
        omega
  obtain ⟨h1, h2, h3⟩ := this l ([], [], false)
  refine ⟨fun p hp => ?_, by unfold backL; simpa using h2, by unfold backL; simpa using h3⟩
  rcases h1 p hp with h | h
  · cases h
  · exact h
theorem sum_take {α : Type} (f : α → Nat) (l : List α) {i : Nat} {x : α} (h : l[i]? = some x) : ((l.take i).map f).sum + f x ≤ (l.map f).sum := by
  have h1 : l.take (i + 1) = l.take i ++ [x] := by rw [List.take_add_one, h]; rfl
  have h2 : (l.map f).sum = ((l.take (i + 1)).map f).sum + ((l.drop (i + 1)).map f).sum := by rw [← List.sum_append, ← List.map_append, List.take_append_drop]
  rw [h2, h1]
  simp
end Go.Proofs.YtdilmefeofdkmaaGreatDoor
