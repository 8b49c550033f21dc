/-
  WIRE, plain: behind a fault, and behind a request that ends the connection, nothing is told.
-/
import Derived.Test.YtdilmefeofdkmaaGreatDoorWiStepP
namespace Go.Proofs.YtdilmefeofdkmaaGreatDoor

theorem complete_close (s : RS) : ∀ q ∈ s.complete.2, q.close = s.complete.1.done := by
  intro q hq
  unfold RS.complete at hq ⊢
  simp only [List.mem_singleton] at hq
  rw [hq]
  rfl
theorem ends_close (s : RS) : ∀ q ∈ s.ends.2, q.close = s.ends.1.done := by
  unfold RS.ends
  simp only
  repeat' split
  all_goals first
    | exact complete_close s
    | (intro q hq; cases hq)
theorem step_close (s : RS) (b : UInt8) : ∀ q ∈ (s.step b).2, q.close = (s.step b).1.done := by
  unfold RS.step
  cases hm : s.mode <;> simp only
  · intro q hq; cases hq
  · unfold RS.field
    simp only
    repeat' split
    all_goals first
      | exact ends_close _
      | (intro q hq; cases hq)
  · unfold RS.bytes
    simp only
    split
    · exact complete_close _
    · intro q hq; cases hq
  · intro q hq; cases hq
  · intro q hq; cases hq
  · intro q hq; cases hq
  · unfold RS.last
    generalize s.chunkLine b = r
    obtain ⟨t, o⟩ := r
    cases o with
    | none => intro q hq; cases hq
    | some line =>
      simp only
      split
      · intro q hq; cases hq
      · exact complete_close _

/-- a request that closes is the last, and the Reader is done -/
theorem feed_close : ∀ (l : List UInt8) (s : RS) (k : Nat) (q : ReqV), (s.feed l).2[k]? = some q → q.close = true → k + 1 = (s.feed l).2.length ∧ (s.feed l).1.done = true
  | [], s, k, q, h, _ => by simp [RS.feed] at h
  | b :: l, s, k, q, h, hc => by
    unfold RS.feed at h ⊢
    split at h
    · simp at h
    · rename_i hd
      rw [if_neg hd]
      simp only at h ⊢
      have h1 := step_len s b
      have h2 := step_close s b
      by_cases hk : k < (s.step b).2.length
      · rw [List.getElem?_append_left hk] at h
        have hm := h2 q (List.mem_of_getElem? h)
        rw [hc] at hm
        rw [feed_done hm.symm]
        exact ⟨by rw [List.append_nil]; omega, hm.symm⟩
      · rw [List.getElem?_append_right (by omega)] at h
        obtain ⟨i1, i2⟩ := feed_close l (s.step b).1 _ q h hc
        exact ⟨by rw [List.length_append]; omega, i2⟩

theorem complete_fault (s : RS) (h : s.fault = 0) : s.complete.1.fault = 0 := h
theorem ends_fault (s : RS) (h : s.fault = 0) : s.ends.1.done = false → s.ends.1.fault = 0 := by
  unfold RS.ends
  simp only
  repeat' split
  all_goals first
    | exact fun _ => h
    | (intro x; cases x)
theorem step_fault (s : RS) (b : UInt8) (h : s.fault = 0) : (s.step b).1.done = false → (s.step b).1.fault = 0 := by
  have hc : s.counts.done = false → s.counts.fault = 0 := by
    unfold RS.counts
    split
    · intro x; cases x
    · exact fun _ => h
  unfold RS.step
  cases hm : s.mode <;> simp only
  · unfold RS.first RS.counts
    simp only
    repeat' split
    all_goals first
      | (intro x; cases x; done)
      | exact fun _ => h
      | skip
    all_goals
      unfold RS.request
      simp only
      repeat' split
      all_goals first
        | (intro x; cases x; done)
        | exact fun _ => h
  · unfold RS.field RS.counts
    simp only
    repeat' split
    all_goals first
      | (intro x; cases x; done)
      | exact fun _ => h
      | exact ends_fault _ h
  · unfold RS.bytes
    simp only
    split <;> exact fun _ => h
  · unfold RS.size RS.chunkLine
    by_cases hb : b = 10
    · simp only [if_pos hb]
      repeat' split
      all_goals first
        | (intro x; cases x; done)
        | exact fun _ => h
    · simp only [if_neg hb]
      by_cases hl : 200 < s.line.length + 1
      · simp only [if_pos hl]; intro x; cases x
      · simp only [if_neg hl]; exact fun _ => h
  · unfold RS.chunk
    simp only
    split <;> exact fun _ => h
  · unfold RS.chunkEnd
    repeat' split
    all_goals first
      | (intro x; cases x; done)
      | exact fun _ => h
  · unfold RS.last RS.chunkLine
    by_cases hb : b = 10
    · simp only [if_pos hb]
      repeat' split
      all_goals first
        | (intro x; cases x; done)
        | exact fun _ => h
    · simp only [if_neg hb]
      by_cases hl : 200 < s.line.length + 1
      · simp only [if_pos hl]; intro x; cases x
      · simp only [if_neg hl]; exact fun _ => h
theorem feed_fault : ∀ (l : List UInt8) (s : RS), (s.done = false → s.fault = 0) → (s.feed l).1.done = false → (s.feed l).1.fault = 0
  | [], s, h => h
  | b :: l, s, h => by
    unfold RS.feed
    split
    · exact h
    · rename_i hd
      exact feed_fault l (s.step b).1 (step_fault s b (h (by simpa using hd)))

end Go.Proofs.YtdilmefeofdkmaaGreatDoor
