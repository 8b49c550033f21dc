/-
  WIRE, plain: a body by its length, and in chunks of any sizes: the law of WireChunks.
-/
import Derived.Test.YtdilmefeofdkmaaGreatDoorSm15
namespace Go.Proofs.YtdilmefeofdkmaaGreatDoor

theorem trimCR_cr (l : List UInt8) : trimCR (l ++ [13]) = l := by simp [trimCR]
theorem step_field {s : RS} (hm : s.mode = .field) (b : UInt8) : s.step b = s.field b := by unfold RS.step; rw [hm]
theorem step_bytes {s : RS} (hm : s.mode = .bytes) (b : UInt8) : s.step b = s.bytes b := by unfold RS.step; rw [hm]
theorem step_chunk {s : RS} (hm : s.mode = .chunk) (b : UInt8) : s.step b = (s.chunk b, []) := by unfold RS.step; rw [hm]
theorem step_size {s : RS} (hm : s.mode = .size) (b : UInt8) : s.step b = (s.size b, []) := by unfold RS.step; rw [hm]
theorem step_last {s : RS} (hm : s.mode = .last) (b : UInt8) : s.step b = s.last b := by unfold RS.step; rw [hm]
theorem feed_one {s : RS} (hd : s.done = false) (b : UInt8) : s.feed [b] = s.step b := by
  unfold RS.feed
  rw [if_neg (by rw [hd]; decide)]
  simp [RS.feed]
/-- a field's line ends -/
def RS.lineEnd (u : RS) (line : List UInt8) : RS × List ReqV :=
  if line = [] then u.ends
  else if u.fields.length = 50 then (u.fail 67, [])
  else if !(cutAt 58 line).2.2 || !allB (cutAt 58 line).1 nameB || (!(cutAt 58 line).2.1.isEmpty && !allB (cutAt 58 line).2.1 shownB) then (u.fail 61, [])
  else ({ u with fields := u.fields ++ [(smallL (cutAt 58 line).1, trimL (cutAt 58 line).2.1)] }, [])
theorem field_nl {s : RS} (hm : s.mode = .field) (hd : s.done = false) (h : s.head + 1 ≤ 8000) : s.feed [10] = RS.lineEnd { s with head := s.head + 1, line := [] } (trimCR s.line) := by
  rw [feed_one hd, step_field hm]
  have hc : s.counts = { s with head := s.head + 1 } := by unfold RS.counts; rw [if_neg (by omega)]
  unfold RS.field RS.lineEnd
  rw [hc]
  simp only
  rw [if_neg (by omega), if_neg (by decide)]
/-- a chunk's line ends -/
def RS.sizeEnd (t : RS) (line : List UInt8) : RS :=
  if !allB (cutAt 59 line).1 hexB || 4 < (cutAt 59 line).1.length || (!(cutAt 59 line).2.1.isEmpty && !allB (cutAt 59 line).2.1 shownB) then t.fail 63
  else if 8000 - t.body.length < hexL (cutAt 59 line).1 then t.fail 65
  else if hexL (cutAt 59 line).1 = 0 then { t with mode := .last }
  else { t with left := hexL (cutAt 59 line).1, mode := .chunk }
theorem size_nl {s : RS} (hm : s.mode = .size) (hd : s.done = false) : s.feed [10] = (RS.sizeEnd { s with line := [] } (trimCR s.line), []) := by
  rw [feed_one hd, step_size hm]
  unfold RS.size RS.chunkLine
  rw [if_pos rfl]
  rfl
/-- bytes of a field's line -/
theorem feed_put : ∀ (l : List UInt8) (s : RS), s.done = false → s.mode = .field → (∀ b ∈ l, b ≠ 10) → 0 ≤ s.head → s.head + l.length ≤ 8000 → s.feed l = ({ s with head := s.head + l.length, line := s.line ++ l }, [])
  | [], s, _, _, _, _, _ => by simp [RS.feed]
  | b :: l, s, hd, hm, hb, h0, hl => by
    have hl' : s.head + ((l.length : Int) + 1) ≤ 8000 := by simpa using hl
    have h1 : s.step b = ({ s with head := s.head + 1, line := s.line ++ [b] }, []) := by
      rw [step_field hm]
      unfold RS.field RS.counts
      have c0 : ¬ 8000 < s.head + 1 := by omega
      simp only [if_neg c0]
      rw [if_pos (hb b (by simp))]
      rfl
    unfold RS.feed
    rw [if_neg (by rw [hd]; decide), h1]
    simp only
    rw [feed_put l { s with head := s.head + 1, line := s.line ++ [b] } hd hm (fun x hx => hb x (by simp [hx])) (by simp only; omega) (by simp only; omega)]
    simp
    omega
/-- bytes of a body -/
theorem feed_bytes : ∀ (l : List UInt8) (s : RS), s.done = false → s.mode = .bytes → l ≠ [] → s.left = l.length → s.feed l = { s with body := s.body ++ l, left := 0 }.complete
  | [], _, _, _, h, _ => absurd rfl h
  | b :: l, s, hd, hm, _, hl => by
    have hl' : s.left = (l.length : Int) + 1 := by simpa using hl
    have h1 := step_bytes hm b
    unfold RS.feed
    rw [if_neg (by rw [hd]; decide), h1]
    unfold RS.bytes
    simp only
    by_cases he : l = []
    · subst he
      have : s.left - 1 = 0 := by simp at hl'; omega
      rw [if_pos this, this]
      simp [RS.feed]
    · have : l.length ≠ 0 := fun h => he (List.eq_nil_of_length_eq_zero h)
      rw [if_neg (by omega)]
      simp only
      rw [feed_bytes l { s with body := s.body ++ [b], left := s.left - 1 } hd hm he (by simp only; omega)]
      simp
/-- bytes of a chunk -/
theorem feed_chunk : ∀ (l : List UInt8) (s : RS), s.done = false → s.mode = .chunk → l ≠ [] → s.left = l.length → s.feed l = ({ s with body := s.body ++ l, left := -1, mode := .chunkEnd }, [])
  | [], _, _, _, h, _ => absurd rfl h
  | b :: l, s, hd, hm, _, hl => by
    have hl' : s.left = (l.length : Int) + 1 := by simpa using hl
    have h1 := step_chunk hm b
    unfold RS.feed
    rw [if_neg (by rw [hd]; decide), h1]
    unfold RS.chunk
    simp only
    by_cases he : l = []
    · subst he
      have : s.left - 1 = 0 := by simp at hl'; omega
      rw [if_pos this]
      simp [RS.feed]
    · have : l.length ≠ 0 := fun h => he (List.eq_nil_of_length_eq_zero h)
      rw [if_neg (by omega), feed_chunk l { s with body := s.body ++ [b], left := s.left - 1 } hd hm he (by simp only; omega)]
      simp
/-- bytes of a chunk's line -/
theorem feed_line : ∀ (l : List UInt8) (s : RS), s.done = false → (s.mode = .size ∨ s.mode = .last) → (∀ b ∈ l, b ≠ 10) → s.line.length + l.length ≤ 200 → s.feed l = ({ s with line := s.line ++ l }, [])
  | [], s, _, _, _, _ => by simp [RS.feed]
  | b :: l, s, hd, hm, hb, hl => by
    have hl' : s.line.length + (l.length + 1) ≤ 200 := by simpa using hl
    have h1 : s.step b = ({ s with line := s.line ++ [b] }, []) := by
      rcases hm with hm | hm
      · rw [step_size hm]
        unfold RS.size RS.chunkLine
        rw [if_neg (hb b (by simp)), if_neg (by omega)]
        rfl
      · rw [step_last hm]
        unfold RS.last RS.chunkLine
        rw [if_neg (hb b (by simp)), if_neg (by omega)]
        rfl
    unfold RS.feed
    rw [if_neg (by rw [hd]; decide), h1]
    simp only
    rw [feed_line l { s with line := s.line ++ [b] } hd hm (fun x hx => hb x (by simp [hx])) (by simp; omega)]
    simp

/-- a digit of sixteen -/
def sixD (up : Bool) (n : Nat) : UInt8 := UInt8.ofNat (if n < 10 then 48 + n else if up then 55 + n else 87 + n)
def sixL (up : Bool) (n : Nat) : List UInt8 := if h : n < 16 then [sixD up n] else sixL up (n / 16) ++ [sixD up (n % 16)]
termination_by n
decreasing_by omega
theorem six_digit (up : Bool) (n : Nat) (h : n < 16) : hexD (sixD up n) = n ∧ hexB (sixD up n) = true ∧ sixD up n ≠ 10 ∧ sixD up n ≠ 59 ∧ sixD up n ≠ 13 := by
  have : ∀ (u : Bool) (d : Fin 16), hexD (sixD u d.val) = (d.val : Int) ∧ hexB (sixD u d.val) = true ∧ sixD u d.val ≠ 10 ∧ sixD u d.val ≠ 59 ∧ sixD u d.val ≠ 13 := by decide
  exact this up ⟨n, h⟩
theorem hexL_snocC (l : List UInt8) (b : UInt8) : hexL (l ++ [b]) = 16 * hexL l + hexD b := by simp [hexL]
theorem six_ok (up : Bool) : ∀ n : Nat, hexL (sixL up n) = n ∧ (∀ b ∈ sixL up n, hexB b = true ∧ b ≠ 10 ∧ b ≠ 59 ∧ b ≠ 13) ∧ sixL up n ≠ [] := by
  intro n
  induction n using Nat.strongRecOn with
  | ind n ih =>
    rw [sixL]
    by_cases h : n < 16
    · rw [dif_pos h]
      obtain ⟨k1, k2, k3, k4, k5⟩ := six_digit up n h
      refine ⟨by simp [hexL, k1], fun b hb => ?_, by simp⟩
      rw [List.mem_singleton] at hb
      subst hb
      exact ⟨k2, k3, k4, k5⟩
    · rw [dif_neg h]
      obtain ⟨i1, i2, _⟩ := ih (n / 16) (by omega)
      obtain ⟨k1, k2, k3, k4, k5⟩ := six_digit up (n % 16) (by omega)
      refine ⟨by rw [hexL_snocC, i1, k1]; omega, fun b hb => ?_, by simp⟩
      rcases List.mem_append.1 hb with hb | hb
      · exact i2 b hb
      · rw [List.mem_singleton] at hb
        subst hb
        exact ⟨k2, k3, k4, k5⟩
theorem six_len (up : Bool) : ∀ (k n : Nat), n < 16 ^ (k + 1) → (sixL up n).length ≤ k + 1
  | 0, n, h => by rw [sixL, dif_pos (by simpa using h)]; simp
  | k + 1, n, h => by
    rw [sixL]
    split
    · simp
    · have := six_len up k (n / 16) (by rw [Nat.pow_succ] at h; exact Nat.div_lt_of_lt_mul (by rw [Nat.mul_comm]; exact h))
      simp; omega

def hostF : List UInt8 × List UInt8 := (hostL, [104])
def codF : List UInt8 × List UInt8 := (codingL, chunkedL)
def putL : List UInt8 := [80, 85, 84]
/-- the head of a request whose body comes in chunks -/
def chunkHead : List UInt8 := [80, 85, 84, 32, 47, 32, 72, 84, 84, 80, 47, 49, 46, 49, 13, 10, 104, 111, 115, 116, 58, 32, 104, 13, 10, 116, 114, 97, 110, 115, 102, 101, 114, 45, 101, 110, 99, 111, 100, 105, 110, 103, 58, 32, 99, 104, 117, 110, 107, 101, 100, 13, 10, 13, 10]
def rsChunk (body : List UInt8) : RS := ⟨.size, 0, false, [], 55, 2, 1, putL, [47], 1, [hostF, codF], body, -1⟩
theorem chunkHead_fed : rsZ.feed chunkHead = (rsChunk [], []) := by decide +kernel
/-- behind the text, the body so far is this -/
def Chunked (S pre : List UInt8) : Prop := rsZ.feed S = (rsChunk pre, [])
theorem cut_six {l : List UInt8} (h : ∀ b ∈ l, b ≠ 59) : cutAt 59 l = (l, [], false) := by
  induction l with
  | nil => rfl
  | cons b l ih =>
    unfold cutAt
    rw [if_neg (h b (by simp)), ih (fun x hx => h x (by simp [hx]))]
theorem Chunked.step {S pre : List UInt8} (h : Chunked S pre) (up : Bool) (x : List UInt8) (hx : x ≠ []) (hl : pre.length + x.length ≤ 8000) :
    Chunked (S ++ (sixL up x.length ++ [13, 10] ++ x ++ [10])) (pre ++ x) := by
  unfold Chunked at h ⊢
  have hx0 : x.length ≠ 0 := fun e => hx (List.eq_nil_of_length_eq_zero e)
  obtain ⟨k1, k2, k3⟩ := six_ok up x.length
  have k4 := six_len up 3 x.length (by omega)
  have e1 : (rsChunk pre).feed (sixL up x.length ++ [13]) = ({ rsChunk pre with line := sixL up x.length ++ [13] }, []) := by
    rw [feed_line _ (rsChunk pre) rfl (.inl rfl) (fun b hb => ?_) (by simp [rsChunk]; omega)]
    · rfl
    · rcases List.mem_append.1 hb with hb | hb
      · exact (k2 b hb).2.1
      · rw [List.mem_singleton] at hb; subst hb; decide
  have e2 : ({ rsChunk pre with line := sixL up x.length ++ [13] } : RS).feed [10] = ({ rsChunk pre with left := x.length, mode := .chunk }, []) := by
    have a1 : allB (sixL up x.length) hexB = true := by
      unfold allB
      rw [Bool.and_eq_true]
      exact ⟨by cases hs : sixL up x.length; exact absurd hs k3; rfl, List.all_eq_true.2 fun b hb => (k2 b hb).1⟩
    rw [size_nl rfl rfl]
    simp only [trimCR_cr]
    unfold RS.sizeEnd
    rw [cut_six (fun b hb => (k2 b hb).2.2.1)]
    simp only [a1, k1]
    rw [if_neg (by simp; omega), if_neg (by simp [rsChunk]; omega), if_neg (by omega)]
    rfl
  have e3 : ({ rsChunk pre with left := x.length, mode := .chunk } : RS).feed x = ({ rsChunk pre with body := pre ++ x, left := -1, mode := .chunkEnd }, []) := by
    rw [feed_chunk x _ rfl rfl hx rfl]
    rfl
  have e4 : ({ rsChunk pre with body := pre ++ x, left := -1, mode := .chunkEnd } : RS).feed [10] = (rsChunk (pre ++ x), []) := rfl
  have f1 : (rsChunk pre).feed (sixL up x.length ++ [13, 10]) = ({ rsChunk pre with left := x.length, mode := .chunk }, []) := by
    rw [show sixL up x.length ++ [13, 10] = (sixL up x.length ++ [13]) ++ [10] by simp, feed_append, e1]
    simp only [e2]
    rfl
  rw [feed_append, h]
  simp only
  rw [feed_append, feed_append, f1]
  simp only [e3, e4]
  rfl
def lastT : List UInt8 := [48, 59, 120, 61, 121, 13, 10, 13, 10]
theorem Chunked.last {S body : List UInt8} (h : Chunked S body) (hl : body.length ≤ 8000) :
    rsZ.feed (S ++ lastT) = (rsZ, [⟨putL, [47], 1, [hostF, codF], body, false⟩]) := by
  unfold Chunked at h
  have e1 : (rsChunk body).feed [48, 59, 120, 61, 121, 13] = ({ rsChunk body with line := [48, 59, 120, 61, 121, 13] }, []) :=
    feed_line [48, 59, 120, 61, 121, 13] (rsChunk body) rfl (.inl rfl) (by decide) (by simp [rsChunk])
  have e2 : ({ rsChunk body with line := [48, 59, 120, 61, 121, 13] } : RS).feed [10] = ({ rsChunk body with mode := .last }, []) := by
    have c1 : cutAt 59 [48, 59, 120, 61, 121] = ([48], [120, 61, 121], true) := by decide
    rw [size_nl rfl rfl]
    simp only
    unfold RS.sizeEnd
    rw [show trimCR [48, 59, 120, 61, 121, 13] = [48, 59, 120, 61, 121] from by decide, c1]
    simp only
    rw [if_neg (by decide), if_neg (by rw [show hexL [48] = 0 from by decide]; simp [rsChunk]; omega), if_pos (by decide)]
    rfl
  have e3 : ({ rsChunk body with mode := .last } : RS).feed [13, 10] = (rsZ, [⟨putL, [47], 1, [hostF, codF], body, false⟩]) := by
    rfl
  rw [show S ++ lastT = S ++ ([48, 59, 120, 61, 121, 13] ++ ([10] ++ [13, 10])) from rfl, feed_append, h]
  simp only
  rw [feed_append, e1]
  simp only
  rw [feed_append, e2]
  simp only [e3]
  rfl

/-- the request that Ask writes -/
def putR (body : List UInt8) : ReqV := ⟨putL, [47], 1, [hostF], body, false⟩
def rsPut : RS := ⟨.field, 0, false, [], 25, 2, 1, putL, [47], 1, [hostF], [], 0⟩
theorem putHead_fed : rsZ.feed (askHead (putR []) ++ fieldT hostF) = (rsPut, []) := by decide +kernel
theorem trimL_sp {D : List UInt8} (h : D.all digB = true) (hn : D ≠ []) : trimL (32 :: D) = D := by
  have hb : ∀ b, digB b = true → blankB b = false := fun b hb => by
    unfold digB at hb
    unfold blankB
    simp only [Bool.and_eq_true, decide_eq_true_eq, Bool.or_eq_false_iff, beq_eq_false_iff_ne] at hb ⊢
    refine ⟨fun e => ?_, fun e => ?_⟩ <;> (rw [e] at hb; exact absurd hb.1 (by decide))
  have hall := List.all_eq_true.1 h
  unfold trimL
  have e1 : (32 :: D).reverse.dropWhile blankB = (32 :: D).reverse := by
    rw [List.reverse_cons]
    cases hr : D.reverse with
    | nil => exact absurd (List.reverse_eq_nil_iff.1 hr) hn
    | cons b l =>
      have : b ∈ D := List.mem_reverse.1 (by rw [hr]; simp)
      rw [List.cons_append, List.dropWhile_cons_of_neg (by rw [hb b (hall b this)]; decide)]
  rw [e1, List.reverse_reverse]
  rw [List.dropWhile_cons_of_pos (by decide)]
  cases D with
  | nil => exact absurd rfl hn
  | cons b l => rw [List.dropWhile_cons_of_neg (by rw [hb b (hall b (by simp))]; decide)]
theorem digits_ne (n : Nat) : Lib.decDigits n ≠ [] := by
  rw [Lib.decDigits]
  split <;> simp
theorem digits_len : ∀ (k n : Nat), n < 10 ^ (k + 1) → (Lib.decDigits n).length ≤ k + 1
  | 0, n, h => by rw [Lib.decDigits, dif_pos (by simpa using h)]; simp
  | k + 1, n, h => by
    rw [Lib.decDigits]
    split
    · simp
    · have := digits_len k (n / 10) (by rw [Nat.pow_succ] at h; exact Nat.div_lt_of_lt_mul (by rw [Nat.mul_comm]; exact h))
      simp; omega
theorem put_fed (body : List UInt8) (hl : body.length ≤ 8000) : rsZ.feed (askT (putR body)) = (rsZ, [fullV (putR body)]) := by
  by_cases hb : body = []
  · subst hb; decide +kernel
  · have hb0 : body.length ≠ 0 := fun e => hb (List.eq_nil_of_length_eq_zero e)
    obtain ⟨D, hD⟩ : ∃ D, Lib.decDigits body.length = D := ⟨_, rfl⟩
    obtain ⟨d1, d2⟩ := dec_digits body.length
    have d3 := digits_ne body.length
    have d4 := digits_len 3 body.length (by omega)
    rw [hD] at d1 d2 d3 d4
    have hd10 : ∀ b ∈ D, b ≠ 10 := fun b hb e => by
      have := List.all_eq_true.1 d2 b hb
      rw [e] at this
      exact absurd this (by decide)
    have hsh : ∀ b ∈ D, shownB b = true := fun b hb => by
      have h := List.all_eq_true.1 d2 b hb
      have hn : ∀ n : Fin 256, digB (UInt8.ofNat n.val) = true → shownB (UInt8.ofNat n.val) = true := by decide +kernel
      have := hn ⟨b.toNat, b.toNat_lt⟩
      simp only [UInt8.ofNat_toNat] at this
      exact this h
    have eT : askT (putR body) = (askHead (putR []) ++ fieldT hostF) ++ ((longL ++ 58 :: 32 :: D) ++ [13] ++ ([10] ++ ([13] ++ ([10] ++ body)))) := by
      unfold askT
      have : (fullV (putR body)).fields = [hostF, (longL, D)] := by
        unfold fullV addLen addConn putR
        simp only [if_neg hb, Lib.itoa_nonneg, hD]
        rfl
      rw [this]
      simp [fieldT, askHead, putR]
    have e1 : rsPut.feed ((longL ++ 58 :: 32 :: D) ++ [13]) = ({ rsPut with head := 42 + D.length, line := longL ++ 58 :: 32 :: D ++ [13] }, []) := by
      rw [feed_put _ rsPut rfl rfl (fun b hb => ?_) (by decide) (by simp [rsPut, longL]; omega)]
      · simp [rsPut, longL]
        omega
      · simp only [List.mem_append, List.mem_cons, List.mem_singleton] at hb
        rcases hb with (hb | hb | hb | hb) | hb | hb
        · revert hb; revert b; decide
        · rw [hb]; decide
        · rw [hb]; decide
        · exact hd10 b hb
        · rw [hb]; decide
        · cases hb
    have e2 : ({ rsPut with head := 42 + (D.length : Int), line := longL ++ 58 :: 32 :: D ++ [13] } : RS).feed [10] = ({ rsPut with head := 43 + (D.length : Int), fields := [hostF, (longL, D)] }, []) := by
      have c1 : cutAt 58 (longL ++ 58 :: 32 :: D) = (longL, 32 :: D, true) := rfl
      have c2 : allB (32 :: D) shownB = true := by
        unfold allB
        rw [Bool.and_eq_true]
        refine ⟨rfl, List.all_eq_true.2 fun b hb => ?_⟩
        rcases List.mem_cons.1 hb with rfl | hb
        · decide
        · exact hsh b hb
      rw [field_nl rfl rfl (by simp only; omega)]
      simp only [trimCR_cr]
      unfold RS.lineEnd
      rw [c1]
      simp only [c2]
      rw [if_neg (by simp [longL]), if_neg (show ¬ rsPut.fields.length = 50 by decide), if_neg (by rw [show allB longL nameB = true from by decide]; simp), trimL_sp d2 d3]
      simp only [Prod.mk.injEq, and_true, rsPut, RS.mk.injEq, true_and]
      refine ⟨by omega, ?_⟩
      rw [show smallL longL = longL from by decide]
      rfl
    have e3 : ({ rsPut with head := 43 + (D.length : Int), fields := [hostF, (longL, D)] } : RS).feed [13] = ({ rsPut with head := 44 + (D.length : Int), line := [13], fields := [hostF, (longL, D)] }, []) := by
      rw [feed_put [13] _ rfl rfl (by decide) (by simp only; omega) (by simp only [List.length_singleton]; omega)]
      simp [rsPut]
      omega
    have e4 : ({ rsPut with head := 44 + (D.length : Int), line := [13], fields := [hostF, (longL, D)] } : RS).feed [10] = ({ rsPut with head := 45 + (D.length : Int), line := [], fields := [hostF, (longL, D)], left := body.length, mode := .bytes }, []) := by
      have v1 : valuesL hostL [hostF, (longL, D)] = [[104]] := rfl
      have v2 : valuesL codingL [hostF, (longL, D)] = [] := rfl
      have v3 : valuesL longL [hostF, (longL, D)] = [D] := rfl
      have a1 : allB D digB = true := by
        unfold allB
        rw [Bool.and_eq_true]
        exact ⟨by cases D; exact absurd rfl d3; rfl, d2⟩
      rw [field_nl rfl rfl (by simp only; omega)]
      unfold RS.lineEnd
      rw [if_pos (show trimCR [13] = [] by decide)]
      unfold RS.ends
      simp only [v1, v2, v3, a1, d1]
      rw [if_neg (by decide), if_neg (by decide), if_neg (by simp; omega), if_neg (by omega), if_neg (by decide), if_neg (by omega)]
      simp
      omega
    have e5 : ({ rsPut with head := 45 + (D.length : Int), line := [], fields := [hostF, (longL, D)], left := body.length, mode := .bytes } : RS).feed body = (rsZ, [fullV (putR body)]) := by
      rw [feed_bytes body _ rfl rfl hb rfl]
      unfold RS.complete RS.req RS.closes fullV addLen addConn putR RS.begin
      simp only [if_neg hb, Lib.itoa_nonneg, hD]
      rfl
    rw [eT, feed_append, putHead_fed]
    simp only
    rw [feed_append, e1]
    simp only
    rw [feed_append, e2]
    simp only
    rw [feed_append, e3]
    simp only
    rw [feed_append, e4]
    simp only
    rw [e5]
    rfl
theorem put_ok (body : List UInt8) (hl : body.length ≤ 8000) : askOK (putR body) = true := by
  unfold askOK backOK
  rw [put_fed body hl]
  simp only [decide_true, Bool.and_true]
  have h1 : (putR body).minor = 1 := rfl
  have h2 : (putR body).fields.any keptB = false := by
    show [hostF].any keptB = false
    decide
  rw [h1, h2]
  have h3 : rsZ.fault = 0 := rfl
  have h4 : rsZ.held = 0 := rfl
  rw [h3, h4]
  decide
theorem putT_len (body : List UInt8) (hl : body.length ≤ 8000) : (askT (putR body)).length ≤ 9000 := by
  have h1 : (askHead (putR body)).length ≤ 100 := by
    show (askHead (putR [])).length ≤ 100
    decide +kernel
  have h2 : ((fullV (putR body)).fields.flatMap fieldT).length ≤ 200 := by
    unfold fullV addLen
    have e1 : addConn (putR body).close (putR body).minor = [] := rfl
    rw [e1, List.append_nil]
    have e2 : (putR body).fields = [hostF] := rfl
    have e3 : (putR body).body = body := rfl
    rw [e2, e3]
    by_cases hb : body = []
    · rw [if_pos hb]
      show ([hostF].flatMap fieldT).length ≤ 200
      decide +kernel
    · have h3 := digits_len 3 body.length (by omega)
      rw [if_neg hb, Lib.itoa_nonneg]
      simp only [List.flatMap_append, List.flatMap_cons, List.flatMap_nil, List.append_nil, List.length_append, fieldT, List.length_cons, List.length_nil, hostF, hostL, longL]
      omega
  unfold askT
  have e3 : (putR body).body = body := rfl
  rw [e3]
  simp only [List.length_append, List.length_cons, List.length_nil]
  omega
end Go.Proofs.YtdilmefeofdkmaaGreatDoor
