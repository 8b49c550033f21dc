/-
  WIRE: Ask, in plain Lean; the plain law of WireBack.
-/
import Derived.Test.YtdilmefeofdkmaaGreatDoorWiEncH
import Derived.Test.YtdilmefeofdkmaaGreatDoorSm21
namespace Go.Proofs.YtdilmefeofdkmaaGreatDoor

/-- a field that Ask adds itself -/
def keptB (f : List UInt8 × List UInt8) : Bool := f.1 == longL || f.1 == codingL || f.1 == connL
def addLen (body : List UInt8) : List (List UInt8 × List UInt8) := if body = [] then [] else [(longL, Lib.itoa body.length)]
def addConn (close : Bool) (minor : Int) : List (List UInt8 × List UInt8) := if close then (if minor = 1 then [(connL, closeL)] else []) else (if minor = 0 then [(connL, aliveL)] else [])
/-- a request as it is read when Ask has written it -/
def fullV (r : ReqV) : ReqV := { r with fields := r.fields ++ addLen r.body ++ addConn r.close r.minor }
def http1L : List UInt8 := [32, 72, 84, 84, 80, 47, 49, 46]
/-- a first line -/
def askHead (r : ReqV) : List UInt8 := r.meth ++ [32] ++ r.target ++ http1L ++ Lib.itoa r.minor ++ [13, 10]
/-- the text of a request -/
def askT (r : ReqV) : List UInt8 := askHead r ++ (fullV r).fields.flatMap fieldT ++ [13, 10] ++ r.body
def backOK (r : ReqV) : Bool := decide ((rsZ.feed (askT r)).2 = [fullV r]) && decide ((rsZ.feed (askT r)).1.fault = 0) && decide ((rsZ.feed (askT r)).1.held = 0)
def askOK (r : ReqV) : Bool := (r.minor == 0 || r.minor == 1) && !r.fields.any keptB && backOK r

theorem decL_snoc (l : List UInt8) (b : UInt8) : decL (l ++ [b]) = 10 * decL l + ((b.toNat : Int) - 48) := by simp [decL]
theorem dec_digits : ∀ n : Nat, decL (Lib.decDigits n) = n ∧ (Lib.decDigits n).all digB = true := by
  intro n
  induction n using Nat.strongRecOn with
  | ind n ih =>
    rw [Lib.decDigits]
    by_cases h : n < 10
    · rw [dif_pos h]
      have : ∀ d : Fin 10, decL [UInt8.ofNat (48 + d.val)] = (d.val : Int) ∧ ([UInt8.ofNat (48 + d.val)] : List UInt8).all digB = true := by decide
      exact this ⟨n, h⟩
    · rw [dif_neg h]
      obtain ⟨i1, i2⟩ := ih (n / 10) (by omega)
      have : ∀ d : Fin 10, ((UInt8.ofNat (48 + d.val)).toNat : Int) = 48 + (d.val : Int) ∧ digB (UInt8.ofNat (48 + d.val)) = true := by decide
      obtain ⟨k1, k2⟩ := this ⟨n % 10, by omega⟩
      simp only at k1 k2
      refine ⟨?_, ?_⟩
      · rw [decL_snoc, i1, k1]; omega
      · rw [List.all_append, i2, Bool.true_and, List.all_cons, k2]; rfl

/-- how a byte leaves a Reader that is at no fault -/
def StepOK (r : RS × List ReqV) : Prop := r.1.fault ≠ 0 ∨ (∃ q, r.2 = [q] ∧ q.close = r.1.done ∧ r.1 = { rsZ with done := q.close }) ∨ (r.2 = [] ∧ r.1.done = false ∧ r.1.fault = 0 ∧ (r.1 = rsZ ∨ 0 < r.1.head))
theorem StepOK.fail (s : RS) (e : Int) (l : List ReqV) (h : e ≠ 0) : StepOK (s.fail e, l) := .inl h
theorem StepOK.complete (s : RS) (h : s.fault = 0) : StepOK s.complete := by
  refine .inr (.inl ⟨s.req, rfl, rfl, ?_⟩)
  show ({ s.begin with done := s.closes } : RS) = { rsZ with done := s.closes }
  unfold RS.begin
  simp only [h]
  rfl
theorem ends_ok (s : RS) (hd : s.done = false) (hf : s.fault = 0) (hh : 0 < s.head) : StepOK s.ends := by
  unfold RS.ends
  simp only
  repeat' split
  all_goals first
    | exact StepOK.fail _ _ _ (by decide)
    | exact StepOK.complete _ hf
    | exact .inr (.inr ⟨rfl, hd, hf, .inr hh⟩)
theorem step_ok (s : RS) (b : UInt8) (hd : s.done = false) (hf : s.fault = 0) (hs : s = rsZ ∨ 0 < s.head) : StepOK (s.step b) := by
  have hh : 0 < s.head + 1 := by
    rcases hs with rfl | h
    · decide
    · omega
  have hp : s.mode ≠ .first → 0 < s.head := fun h => by
    rcases hs with rfl | h
    · exact absurd rfl h
    · assumption
  unfold RS.step
  cases hm : s.mode <;> simp only
  · unfold RS.first RS.counts
    simp only
    by_cases c0 : 8000 < s.head + 1
    · simp only [if_pos c0]; exact StepOK.fail _ _ _ (by decide)
    simp only [if_neg c0]
    split
    · split
      · refine .inr (.inr ⟨rfl, hd, hf, .inl ?_⟩)
        unfold RS.begin
        simp only [hf, hd]
        rfl
      · unfold RS.request
        simp only
        repeat' split
        all_goals first
          | exact StepOK.fail _ _ _ (by decide)
          | exact .inr (.inr ⟨rfl, hd, hf, .inr hh⟩)
          | exact .inl (by simp [RS.fail])
    · repeat' split
      all_goals first
        | exact StepOK.fail _ _ _ (by decide)
        | exact .inr (.inr ⟨rfl, hd, hf, .inr hh⟩)
  · unfold RS.field RS.counts
    simp only
    by_cases c0 : 8000 < s.head + 1
    · simp only [if_pos c0]; exact StepOK.fail _ _ _ (by decide)
    simp only [if_neg c0]
    repeat' split
    all_goals first
      | exact StepOK.fail _ _ _ (by decide)
      | exact .inr (.inr ⟨rfl, hd, hf, .inr hh⟩)
      | exact ends_ok _ hd hf hh
  · unfold RS.bytes
    simp only
    split
    · exact StepOK.complete _ hf
    · exact .inr (.inr ⟨rfl, hd, hf, .inr (hp (by rw [hm]; decide))⟩)
  · have h0 := hp (by rw [hm]; decide)
    unfold RS.size RS.chunkLine
    by_cases hb : b = 10
    · simp only [if_pos hb]
      repeat' split
      all_goals first
        | exact StepOK.fail _ _ _ (by decide)
        | exact .inr (.inr ⟨rfl, hd, hf, .inr h0⟩)
    · simp only [if_neg hb]
      by_cases hl : 200 < s.line.length + 1
      · simp only [if_pos hl]; exact StepOK.fail _ _ _ (by decide)
      · simp only [if_neg hl]; exact .inr (.inr ⟨rfl, hd, hf, .inr h0⟩)
  · have h0 := hp (by rw [hm]; decide)
    unfold RS.chunk
    simp only
    split <;> exact .inr (.inr ⟨rfl, hd, hf, .inr h0⟩)
  · have h0 := hp (by rw [hm]; decide)
    unfold RS.chunkEnd
    repeat' split
    all_goals first
      | exact StepOK.fail _ _ _ (by decide)
      | exact .inr (.inr ⟨rfl, hd, hf, .inr h0⟩)
  · have h0 := hp (by rw [hm]; decide)
    unfold RS.last RS.chunkLine
    by_cases hb : b = 10
    · simp only [if_pos hb]
      repeat' split
      all_goals first
        | exact StepOK.fail _ _ _ (by decide)
        | exact StepOK.complete _ hf
    · simp only [if_neg hb]
      by_cases hl : 200 < s.line.length + 1
      · simp only [if_pos hl]; exact StepOK.fail _ _ _ (by decide)
      · simp only [if_neg hl]; exact .inr (.inr ⟨rfl, hd, hf, .inr h0⟩)
/-- fed without a fault -/
theorem feed_ok : ∀ (l : List UInt8) (s : RS), s.done = false → s.fault = 0 → (s = rsZ ∨ 0 < s.head) → (s.feed l).1.fault = 0 → ((s.feed l).1.done = true ∧ ∃ q ∈ (s.feed l).2, q.close = true) ∨ ((s.feed l).1.done = false ∧ ((s.feed l).1 = rsZ ∨ 0 < (s.feed l).1.head))
  | [], s, hd, _, hs, _ => .inr ⟨hd, hs⟩
  | b :: l, s, hd, hf, hs, hF => by
    have hk := step_ok s b hd hf hs
    unfold RS.feed at hF ⊢
    rw [if_neg (by rw [hd]; decide)] at hF ⊢
    simp only at hF ⊢
    rcases hk with h | ⟨q, h1, h2, h3⟩ | ⟨h1, h2, h3, h4⟩
    · exfalso
      have hdn : (s.step b).1.done = true := by
        cases hx : (s.step b).1.done
        · exact absurd (step_fault s b hf hx) h
        · rfl
      rw [feed_done hdn] at hF
      exact h hF
    · cases hc : q.close
      · have h4 : (s.step b).1 = rsZ := by rw [h3, hc]; rfl
        rw [h4] at hF ⊢
        rcases feed_ok l rsZ rfl rfl (.inl rfl) hF with ⟨k1, q', k2, k3⟩ | k
        · exact .inl ⟨k1, q', List.mem_append_right _ k2, k3⟩
        · exact .inr k
      · have hdn : (s.step b).1.done = true := by rw [← h2, hc]
        rw [feed_done hdn]
        exact .inl ⟨hdn, q, by simp [h1], hc⟩
    · rcases feed_ok l _ h2 h3 h4 hF with ⟨k1, q', k2, k3⟩ | k
      · exact .inl ⟨k1, q', List.mem_append_right _ k2, k3⟩
      · exact .inr k
theorem zero_of_held {s : RS} (hd : s.done = false) (h0 : s.held = 0) (hs : s = rsZ ∨ 0 < s.head) : s = rsZ := by
  rcases hs with h | h
  · exact h
  · exfalso
    unfold RS.held at h0
    rw [hd] at h0
    simp only [Bool.false_eq_true, if_false] at h0
    split at h0 <;> omega
/-- what a Reader that fed on what Ask wrote tells -/
theorem ask_fed {r : ReqV} (h : askOK r = true) : (rsZ.feed (askT r)).2 = [fullV r] ∧ (rsZ.feed (askT r)).1.fault = 0 ∧ (if r.close then (rsZ.feed (askT r)).1.done = true else (rsZ.feed (askT r)).1 = rsZ) := by
  unfold askOK backOK at h
  simp only [Bool.and_eq_true, decide_eq_true_eq] at h
  obtain ⟨_, ⟨h1, h2⟩, h3⟩ := h
  refine ⟨h1, h2, ?_⟩
  cases hc : r.close
  · simp only [Bool.false_eq_true, if_false]
    rcases feed_ok (askT r) rsZ rfl rfl (.inl rfl) h2 with ⟨_, q, k2, k3⟩ | ⟨k1, k2⟩
    · rw [h1] at k2
      have : q = fullV r := by simpa using k2
      rw [this] at k3
      have : r.close = true := k3
      rw [hc] at this; cases this
    · exact zero_of_held k1 h3 k2
  · simp only [if_true]
    exact (feed_close (askT r) rsZ 0 (fullV r) (by rw [h1]; rfl) hc).2

/-- what is wanted of the requests so far; and whether the connection has ended -/
def backStep {α : Type} (p : List UInt8 × List (ReqV × α) × Bool) (r : ReqV × α) : List UInt8 × List (ReqV × α) × Bool :=
  if askOK r.1 then (p.1 ++ askT r.1, if p.2.2 then p.2.1 else p.2.1 ++ [r], p.2.2 || r.1.close) else p
def backL {α : Type} (l : List (ReqV × α)) : List UInt8 × List (ReqV × α) × Bool := l.foldl backStep ([], [], false)
theorem backL_take {α : Type} (l : List (ReqV × α)) {i : Nat} {r : ReqV × α} (h : l[i]? = some r) : backL (l.take (i + 1)) = backStep (backL (l.take i)) r := by
  unfold backL
  rw [List.take_add_one, h]
  simp
structure BackOK {α : Type} (p : List UInt8 × List (ReqV × α) × Bool) : Prop where
  out : (rsZ.feed p.1).2 = p.2.1.map fun x => fullV x.1
  fault : (rsZ.feed p.1).1.fault = 0
  st : if p.2.2 then (rsZ.feed p.1).1.done = true else (rsZ.feed p.1).1 = rsZ
theorem BackOK.step {α : Type} {p : List UInt8 × List (ReqV × α) × Bool} (h : BackOK p) (r : ReqV × α) : BackOK (backStep p r) := by
  unfold backStep
  split
  · rename_i hr
    obtain ⟨k1, k2, k3⟩ := ask_fed hr
    obtain ⟨T, W, c⟩ := p
    obtain ⟨h1, h2, h3⟩ := h
    simp only at h1 h2 h3
    cases c
    · simp only [Bool.false_eq_true, if_false, Bool.false_or] at h3 ⊢
      have e := feed_append T (askT r.1) rsZ
      rw [h3] at e
      have e1 := congrArg Prod.fst e
      have e2 := congrArg Prod.snd e
      simp only at e1 e2
      refine ⟨?_, ?_, ?_⟩
      · simp only
        rw [e2, h1, k1]
        simp
      · simp only
        rw [e1, k2]
      · simp only
        rw [e1]
        exact k3
    · simp only [if_true, Bool.true_or] at h3 ⊢
      have e := feed_stop rsZ T (askT r.1) h3
      exact ⟨by simp only; rw [e]; exact h1, by simp only; rw [e]; exact h2, by simp only [if_true]; rw [e]; exact h3⟩
  · exact h
theorem back_ok {α : Type} (l : List (ReqV × α)) : BackOK (backL l) := by
  have : ∀ (l : List (ReqV × α)) (p : List UInt8 × List (ReqV × α) × Bool), BackOK p → BackOK (l.foldl backStep p) := by
    intro l
    induction l with
    | nil => intro p h; exact h
    | cons r l ih => intro p h; exact ih _ (h.step r)
  exact this l _ ⟨rfl, rfl, rfl⟩
theorem BackOK.held {α : Type} {p : List UInt8 × List (ReqV × α) × Bool} (h : BackOK p) : (rsZ.feed p.1).1.held = 0 := by
  have := h.st
  split at this
  · unfold RS.held; rw [this]; rfl
  · rw [this]; rfl
/-- what is wanted is of the requests, and no more -/
theorem back_mem {α : Type} (l : List (ReqV × α)) : (∀ p ∈ (backL l).2.1, p ∈ l) ∧ (backL l).2.1.length ≤ l.length ∧ (backL l).1.length ≤ (l.map fun p => (askT p.1).length).sum := by
  have : ∀ (l : List (ReqV × α)) (p : List UInt8 × List (ReqV × α) × Bool), (∀ x ∈ (l.foldl backStep p).2.1, x ∈ p.2.1 ∨ x ∈ l) ∧ (l.foldl backStep p).2.1.length ≤ p.2.1.length + l.length ∧ (l.foldl backStep p).1.length ≤ p.1.length + (l.map fun p => (askT p.1).length).sum := by
    intro l
    induction l with
    | nil => intro p; exact ⟨fun x h => .inl h, by simp, by simp⟩
    | cons r l ih =>
      intro p
      obtain ⟨i1, i2, i3⟩ := ih (backStep p r)
      have e : (∀ x ∈ (backStep p r).2.1, x ∈ p.2.1 ∨ x = r) ∧ (backStep p r).2.1.length ≤ p.2.1.length + 1 ∧ (backStep p r).1.length ≤ p.1.length + (askT r.1).length := by
        unfold backStep
        split
        · refine ⟨fun x hx => ?_, ?_, by simp⟩
          · simp only at hx
            split at hx
            · exact .inl hx
            · rcases List.mem_append.1 hx with h | h
              · exact .inl h
              · exact .inr (List.mem_singleton.1 h)
          · simp only
            split <;> simp
        · exact ⟨fun x hx => .inl hx, by omega, by omega⟩
      refine ⟨fun x hx => ?_, ?_, ?_⟩
      · rcases i1 x hx with h | h
        · rcases e.1 x h with h | h
          · exact .inl h
          · exact .inr (by rw [h]; simp)
        · exact .inr (by simp [h])
      · simp only [List.foldl_cons, List.length_cons]
        have := e.2.1
        omega
      · simp only [List.foldl_cons, List.map_cons, List.sum_cons]
        have := e.2.2
        omega
  obtain ⟨h1, h2, h3⟩ := this l ([], [], false)
  refine ⟨fun p hp => ?_, by unfold backL; simpa using h2, by unfold backL; simpa using h3⟩
  rcases h1 p hp with h | h
  · cases h
  · exact h
theorem sum_take {α : Type} (f : α → Nat) (l : List α) {i : Nat} {x : α} (h : l[i]? = some x) : ((l.take i).map f).sum + f x ≤ (l.map f).sum := by
  have h1 : l.take (i + 1) = l.take i ++ [x] := by rw [List.take_add_one, h]; rfl
  have h2 : (l.map f).sum = ((l.take (i + 1)).map f).sum + ((l.drop (i + 1)).map f).sum := by rw [← List.sum_append, ← List.map_append, List.take_append_drop]
  rw [h2, h1]
  simp
end Go.Proofs.YtdilmefeofdkmaaGreatDoor
