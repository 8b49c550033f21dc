/-
  WIRE: the document's Reader, in plain Lean; it does what the program's does.
-/
import Derived.Test.YtdilmefeofdkmaaGreatDoorSm15
namespace Go.Proofs.YtdilmefeofdkmaaGreatDoor

/-- the document's Reader -/
structure QS where
  inn : Int
  head : Int
  target : Int
  first : Bool
  line : List UInt8
  body : List UInt8
  left : Int
  meth : List UInt8
  tgt : List UInt8
  minor : Int
  fields : List (List UInt8 × List UInt8)
  fault : Int
  done : Bool
deriving DecidableEq

def qsZ : QS := ⟨0, 0, -1, true, [], [], 0, [], [], 0, [], 0, false⟩
def QS.anew (q : QS) : QS := ⟨0, 0, -1, true, [], [], 0, [], [], 0, [], q.fault, q.done⟩
def QS.no (q : QS) (e : Int) : QS := { q with fault := e, done := true }
def QS.put (q : QS) (b : UInt8) : QS := { q with line := q.line ++ [b] }
def closesV (minor : Int) (fs : List (List UInt8 × List UInt8)) : Bool :=
  if minor = 1 then (valuesL connL fs).any fun v => smallL v == closeL
  else if minor = 0 then !((valuesL connL fs).any fun v => smallL v == aliveL) else false
def QS.complete (q : QS) : QS × List ReqV :=
  ({ q.anew with done := closesV q.minor q.fields }, [⟨q.meth, q.tgt, q.minor, q.fields, q.body, closesV q.minor q.fields⟩])
def startOk (line : List UInt8) : Bool :=
  (cutAt 32 line).2.2 && (cutAt 32 (cutAt 32 line).2.1).2.2 && allB (cutAt 32 line).1 capB && allB (cutAt 32 (cutAt 32 line).2.1).1 seenB && formL (cutAt 32 (cutAt 32 line).2.1).2.1
def QS.start (q : QS) (line : List UInt8) : QS :=
  let c := cutAt 32 line
  let d := cutAt 32 c.2.1
  let t := { q with first := false }
  if startOk line = false then t.no 60
  else if methods.contains c.1 = false then t.no 68
  else if d.2.1 ≠ http10 ∧ d.2.1 ≠ http11 then t.no 70
  else { t with meth := c.1, tgt := d.1, minor := ((d.2.1.getD 7 0).toNat : Int) - 48 }
def QS.field (q : QS) (line : List UInt8) : QS :=
  let c := cutAt 58 line
  if c.2.2 && allB c.1 nameB && c.2.1.all shownB then { q with fields := q.fields ++ [(smallL c.1, trimL c.2.1)] } else q.no 61
def numberV (x : List UInt8) : Int := if x.length < 1 ∨ 10 < x.length then -1 else if x.all digB then decL x else -1
def longN : List (List UInt8) → Int
  | [x] => numberV x
  | _ => 0
def QS.ends (q : QS) : QS × List ReqV :=
  let hosts := valuesL hostL q.fields
  let coding := valuesL codingL q.fields
  let long := valuesL longL q.fields
  if 1 < hosts.length ∨ (q.minor = 1 ∧ hosts.length ≠ 1) then (q.no 64, [])
  else if 1 < coding.length ∨ (coding.length = 1 ∧ (q.minor = 0 ∨ smallL (coding.headD []) ≠ chunkedL)) then (q.no 69, [])
  else if 1 < long.length ∨ (long.length = 1 ∧ (coding.length = 1 ∨ longN long < 0)) then (q.no 62, [])
  else if 8000 < longN long then (q.no 65, [])
  else if coding.length = 1 then ({ q with inn := 2 }, [])
  else if longN long = 0 then q.complete
  else ({ q with left := longN long, inn := 1 }, [])
def sizeOk (line : List UInt8) : Bool := allB (cutAt 59 line).1 hexB && decide ((cutAt 59 line).1.length ≤ 4) && (cutAt 59 line).2.1.all shownB
def QS.size (q : QS) (line : List UInt8) : QS :=
  if sizeOk line = false then q.no 63
  else if 8000 - (q.body.length : Int) < hexL (cutAt 59 line).1 then q.no 65
  else if hexL (cutAt 59 line).1 = 0 then { q with inn := 5 }
  else { q with left := hexL (cutAt 59 line).1, inn := 3 }
def QS.inHead (q : QS) (b : UInt8) : QS × List ReqV :=
  let t := { q with head := q.head + 1 }
  if 8000 < q.head + 1 then (t.no 67, [])
  else if b ≠ 10 then
    if q.first = true ∧ b = 32 then
      ((if q.target < 0 ∧ q.meth = [] then { t with target := 0, meth := [63] } else { t with target := -1 }).put b, [])
    else if q.first = true ∧ 0 ≤ q.target then
      if 2000 < q.target + 1 then ({ t with target := q.target + 1 }.no 66, []) else ({ t with target := q.target + 1 }.put b, [])
    else (t.put b, [])
  else
    let line := trimCR q.line
    let u := { t with line := [] }
    if q.first = true ∧ line = [] then (u.anew, [])
    else if q.first = true then (u.start line, [])
    else if line = [] then u.ends
    else if 50 ≤ q.fields.length then (u.no 67, [])
    else (u.field line, [])
def QS.inBody (q : QS) (b : UInt8) : QS × List ReqV :=
  let t := { q with body := q.body ++ [b], left := q.left - 1 }
  if q.left - 1 = 0 ∧ q.inn = 1 then t.complete
  else if q.left - 1 = 0 then ({ t with inn := 4 }, [])
  else (t, [])
def QS.inEnd (q : QS) (b : UInt8) : QS :=
  if b = 10 then { q with line := [], inn := 2 }
  else if b = 13 ∧ q.line = [] then q.put b
  else q.no 63
def QS.inLine (q : QS) (b : UInt8) : QS × List ReqV :=
  if b ≠ 10 then (if 200 < q.line.length + 1 then (q.put b).no 63 else q.put b, [])
  else
    let t := { q with line := [] }
    if q.inn = 2 then (t.size (trimCR q.line), [])
    else if trimCR q.line ≠ [] then (t.no 63, [])
    else t.complete
def QS.byte (q : QS) (b : UInt8) : QS × List ReqV :=
  if q.inn = 0 then q.inHead b
  else if q.inn = 1 ∨ q.inn = 3 then q.inBody b
  else if q.inn = 4 then (q.inEnd b, [])
  else q.inLine b
def QS.feed : QS → List UInt8 → QS × List ReqV
  | q, [] => (q, [])
  | q, b :: l => if q.done then (q, []) else
    let r := q.byte b
    let p := r.1.feed l
    (p.1, r.2 ++ p.2)
def QS.held (q : QS) : Int := if q.done then 0 else if q.inn = 0 then q.head else q.head + q.body.length + q.line.length

/-- what both hold alike behind a head -/
structure Alike (s : RS) (q : QS) : Prop where
  meth : q.meth = s.meth
  tgt : q.tgt = s.target
  minor : q.minor = s.minor
  has : s.meth ≠ []
  mi : s.minor = 0 ∨ s.minor = 1
/-- the two stand alike -/
structure SimL (s : RS) (q : QS) : Prop where
  head : q.head = s.head
  line : q.line = s.line
  body : q.body = s.body
  fields : q.fields = s.fields
  mode : match s.mode with
    | .first => q.inn = 0 ∧ q.first = true ∧ s.meth = [] ∧ s.target = [] ∧ q.tgt = [] ∧ s.body = [] ∧ s.fields = [] ∧ s.minor = 0 ∧ q.minor = 0 ∧ s.left = 0 ∧ q.left = 0 ∧
      ((s.blanks = 0 ∧ q.target = -1 ∧ q.meth = [] ∧ s.tgt = 0) ∨ (s.blanks = 1 ∧ q.target = s.tgt ∧ q.meth = [63] ∧ 0 ≤ s.tgt ∧ s.tgt ≤ 2000) ∨ (2 ≤ s.blanks ∧ q.target = -1 ∧ q.meth = [63]))
    | .field => q.inn = 0 ∧ q.first = false ∧ s.body = [] ∧ s.left = 0 ∧ q.left = 0 ∧ Alike s q
    | .bytes => q.inn = 1 ∧ q.left = s.left ∧ s.line = [] ∧ 0 < s.left ∧ Alike s q
    | .size => q.inn = 2 ∧ s.left = -1 ∧ Alike s q
    | .chunk => q.inn = 3 ∧ q.left = s.left ∧ s.line = [] ∧ 0 < s.left ∧ Alike s q
    | .chunkEnd => q.inn = 4 ∧ s.left = -1 ∧ Alike s q
    | .last => q.inn = 5 ∧ s.left = -1 ∧ Alike s q
structure Sim (s : RS) (q : QS) : Prop where
  done : q.done = s.done
  fault : q.fault = s.fault
  live : s.done = false → SimL s q

theorem Sim.fail {s : RS} {q : QS} (e : Int) : Sim (s.fail e) (q.no e) := ⟨rfl, rfl, fun h => by cases h⟩
theorem Sim.zero : Sim rsZ qsZ := ⟨rfl, rfl, fun _ => ⟨rfl, rfl, rfl, rfl, ⟨rfl, rfl, rfl, rfl, rfl, rfl, rfl, rfl, rfl, rfl, rfl, .inl ⟨rfl, rfl, rfl, rfl⟩⟩⟩⟩
theorem Sim.begin {s : RS} {q : QS} (hd : q.done = s.done) (hf : q.fault = s.fault) : Sim s.begin q.anew :=
  ⟨hd, hf, fun _ => ⟨rfl, rfl, rfl, rfl, ⟨rfl, rfl, rfl, rfl, rfl, rfl, rfl, rfl, rfl, rfl, rfl, .inl ⟨rfl, rfl, rfl, rfl⟩⟩⟩⟩
theorem Sim.held {s : RS} {q : QS} (h : Sim s q) : q.held = s.held := by
  unfold QS.held RS.held
  rw [h.done]
  cases hd : s.done
  · have hl := h.live hd
    have hm := hl.mode
    simp only [Bool.false_eq_true, if_false, hl.head, hl.body, hl.line]
    cases he : s.mode <;> rw [he] at hm <;> simp only at hm
    · obtain ⟨h1, h2, h3, h4, h5, h6, h7, h8, h9, h10, h11, h12⟩ := hm
      rw [if_pos h1, h3, h6]; simp
    · obtain ⟨h1, h2, h3, h4, h5, h6⟩ := hm
      rw [if_pos h1, h3, h4]; simp
    · obtain ⟨h1, h2, h3, h4, h6⟩ := hm
      rw [if_neg (by omega), h3, if_neg (by omega)]; simp
    · obtain ⟨h1, h2, h6⟩ := hm
      rw [if_neg (by omega), if_pos ⟨h6.has, by omega⟩]
    · obtain ⟨h1, h2, h3, h4, h6⟩ := hm
      rw [if_neg (by omega), h3, if_neg (by omega)]; simp
    · obtain ⟨h1, h2, h6⟩ := hm
      rw [if_neg (by omega), if_pos ⟨h6.has, by omega⟩]
    · obtain ⟨h1, h2, h6⟩ := hm
      rw [if_neg (by omega), if_pos ⟨h6.has, by omega⟩]
  · simp
theorem Sim.complete {s : RS} {q : QS} (hf : q.fault = s.fault) (hb : q.body = s.body) (hs : q.fields = s.fields) (ha : Alike s q) : Sim s.complete.1 q.complete.1 ∧ q.complete.2 = s.complete.2 := by
  have hc : closesV q.minor q.fields = s.closes := by
    unfold closesV RS.closes
    rw [ha.minor, hs]
    rcases ha.mi with h | h <;> rw [h] <;> simp
  unfold RS.complete QS.complete RS.req
  rw [hc, ha.meth, ha.tgt, ha.minor, hs, hb]
  exact ⟨⟨rfl, hf, fun _ => ⟨rfl, rfl, rfl, rfl, ⟨rfl, rfl, rfl, rfl, rfl, rfl, rfl, rfl, rfl, rfl, rfl, .inl ⟨rfl, rfl, rfl, rfl⟩⟩⟩⟩, rfl⟩

theorem cutAt_none {c : UInt8} : ∀ {l : List UInt8}, (cutAt c l).2.2 = false → (cutAt c l).2.1 = []
  | [], _ => rfl
  | b :: l, h => by
    unfold cutAt at h ⊢
    split at h
    · cases h
    · rename_i hb
      rw [if_neg hb]
      exact cutAt_none h
theorem allB_all {l : List UInt8} {p : UInt8 → Bool} : (!l.isEmpty && !allB l p) = !l.all p := by
  unfold allB
  cases l <;> simp
theorem allB_ne {l : List UInt8} {p : UInt8 → Bool} (h : allB l p = true) : l ≠ [] := by
  unfold allB at h
  intro e
  rw [e] at h
  cases h

theorem sim_start {s : RS} {q : QS} (hd : s.done = false) (hq : q.done = false) (hf : q.fault = s.fault) (hh : q.head = s.head) (hl : q.line = s.line) (hb : q.body = s.body) (hs : q.fields = s.fields)
    (hi : q.inn = 0) (hsb : s.body = []) (hsl : s.left = 0) (hql : q.left = 0) (hsm : s.minor = 0) (line : List UInt8) : Sim { s.request line with mode := .field } (q.start line) := by
  by_cases h1 : startOk line = true
  · have h1' := h1
    unfold startOk at h1
    simp only [Bool.and_eq_true] at h1
    obtain ⟨⟨⟨⟨a1, a2⟩, a3⟩, a4⟩, a5⟩ := h1
    have c1 : ¬ (!(cutAt 32 (cutAt 32 line).2.1).2.2 || !allB (cutAt 32 line).1 capB || !allB (cutAt 32 (cutAt 32 line).2.1).1 seenB || !formL (cutAt 32 (cutAt 32 line).2.1).2.1) = true := by rw [a2, a3, a4, a5]; simp
    have c1' : ¬ startOk line = false := by rw [h1']; simp
    by_cases h2 : methods.contains (cutAt 32 line).1 = true
    · have c2 : ¬ (!methods.contains (cutAt 32 line).1) = true := by rw [h2]; simp
      have c2' : ¬ methods.contains (cutAt 32 line).1 = false := by rw [h2]; simp
      by_cases h3 : (cutAt 32 (cutAt 32 line).2.1).2.1 ≠ http10 ∧ (cutAt 32 (cutAt 32 line).2.1).2.1 ≠ http11
      · have c3 : ((cutAt 32 (cutAt 32 line).2.1).2.1 != http10 && (cutAt 32 (cutAt 32 line).2.1).2.1 != http11) = true := by simpa using h3
        have e1 : q.start line = ({ q with first := false } : QS).no 70 := by unfold QS.start; simp only; rw [if_neg c1', if_neg c2', if_pos h3]
        have e2 : (s.request line).fault = 70 ∧ (s.request line).done = true := by
          unfold RS.request; simp only; rw [if_neg c1, if_neg c2, if_pos c3]; exact ⟨rfl, rfl⟩
        rw [e1]
        exact ⟨e2.2.symm, e2.1.symm, fun x => by rw [show ({ s.request line with mode := .field } : RS).done = (s.request line).done from rfl, e2.2] at x; cases x⟩
      · have c3 : ¬ ((cutAt 32 (cutAt 32 line).2.1).2.1 != http10 && (cutAt 32 (cutAt 32 line).2.1).2.1 != http11) = true := by simpa using h3
        have e1 : q.start line = { q with first := false, meth := (cutAt 32 line).1, tgt := (cutAt 32 (cutAt 32 line).2.1).1, minor := (((cutAt 32 (cutAt 32 line).2.1).2.1.getD 7 0).toNat : Int) - 48 } := by unfold QS.start; simp only; rw [if_neg c1', if_neg c2', if_neg h3]
        have e2 : s.request line = { s with meth := (cutAt 32 line).1, target := (cutAt 32 (cutAt 32 line).2.1).1, minor := if (cutAt 32 (cutAt 32 line).2.1).2.1 == http11 then 1 else s.minor } := by
          unfold RS.request; simp only; rw [if_neg c1, if_neg c2, if_neg c3]
        have h4 : (cutAt 32 (cutAt 32 line).2.1).2.1 = http10 ∨ (cutAt 32 (cutAt 32 line).2.1).2.1 = http11 := by
          by_cases x : (cutAt 32 (cutAt 32 line).2.1).2.1 = http10
          · exact .inl x
          · exact .inr (by
              by_cases y : (cutAt 32 (cutAt 32 line).2.1).2.1 = http11
              · exact y
              · exact absurd ⟨x, y⟩ h3)
        have hv : (((cutAt 32 (cutAt 32 line).2.1).2.1.getD 7 0).toNat : Int) - 48 = (if (cutAt 32 (cutAt 32 line).2.1).2.1 == http11 then 1 else s.minor) ∧ ((if (cutAt 32 (cutAt 32 line).2.1).2.1 == http11 then 1 else s.minor) = 0 ∨ (if (cutAt 32 (cutAt 32 line).2.1).2.1 == http11 then 1 else s.minor) = 1) := by
          rcases h4 with h4 | h4
          · rw [h4, show (http10 == http11) = false from rfl, hsm]
            exact ⟨rfl, .inl rfl⟩
          · rw [h4, show (http11 == http11) = true from rfl]
            exact ⟨rfl, .inr rfl⟩
        rw [e1, e2]
        exact ⟨by simp [hd, hq], hf, fun _ => ⟨hh, hl, hb, hs, ⟨hi, rfl, hsb, hsl, hql, ⟨rfl, rfl, hv.1, allB_ne a3, hv.2⟩⟩⟩⟩
    · have c2 : (!methods.contains (cutAt 32 line).1) = true := by simpa using h2
      have c2' : methods.contains (cutAt 32 line).1 = false := by simpa using h2
      have e1 : q.start line = ({ q with first := false } : QS).no 68 := by unfold QS.start; simp only; rw [if_neg c1', if_pos c2']
      have e2 : (s.request line).fault = 68 ∧ (s.request line).done = true := by
        unfold RS.request; simp only; rw [if_neg c1, if_pos c2]; exact ⟨rfl, rfl⟩
      rw [e1]
      exact ⟨e2.2.symm, e2.1.symm, fun x => by rw [show ({ s.request line with mode := .field } : RS).done = (s.request line).done from rfl, e2.2] at x; cases x⟩
  · have h1' : startOk line = false := by simpa using h1
    have c1 : (!(cutAt 32 (cutAt 32 line).2.1).2.2 || !allB (cutAt 32 line).1 capB || !allB (cutAt 32 (cutAt 32 line).2.1).1 seenB || !formL (cutAt 32 (cutAt 32 line).2.1).2.1) = true := by
      have hn : (cutAt 32 line).2.2 = false → (cutAt 32 (cutAt 32 line).2.1).2.2 = false := fun e => by rw [cutAt_none e]; rfl
      unfold startOk at h1'
      generalize cutAt 32 line = c at *
      generalize (cutAt 32 c.2.1).2.2 = x2 at *
      generalize allB c.1 capB = x3 at *
      generalize allB (cutAt 32 c.2.1).1 seenB = x4 at *
      generalize formL (cutAt 32 c.2.1).2.1 = x5 at *
      generalize c.2.2 = x1 at *
      cases x1 <;> cases x2 <;> cases x3 <;> cases x4 <;> cases x5 <;> simp_all
    have e1 : q.start line = ({ q with first := false } : QS).no 60 := by unfold QS.start; simp only; rw [if_pos h1']
    have e2 : (s.request line).fault = 60 ∧ (s.request line).done = true := by
      unfold RS.request; simp only; rw [if_pos c1]; exact ⟨rfl, rfl⟩
    rw [e1]
    exact ⟨e2.2.symm, e2.1.symm, fun x => by rw [show ({ s.request line with mode := .field } : RS).done = (s.request line).done from rfl, e2.2] at x; cases x⟩

theorem sim_field {s : RS} {q : QS} (hd : s.done = false) (hq : q.done = false) (hf : q.fault = s.fault) (hl : SimL s q) (hm : s.mode = .field) (line : List UInt8) :
    Sim (let c := cutAt 58 line; if !c.2.2 || !allB c.1 nameB || (!c.2.1.isEmpty && !allB c.2.1 shownB) then s.fail 61 else { s with fields := s.fields ++ [(smallL c.1, trimL c.2.1)] }) (q.field line) := by
  have hmode := hl.mode
  rw [hm] at hmode
  obtain ⟨h1, h2, h3, h4, h5, h6⟩ := hmode
  simp only
  rw [allB_all]
  by_cases h : ((cutAt 58 line).2.2 && allB (cutAt 58 line).1 nameB && (cutAt 58 line).2.1.all shownB) = true
  · have e1 : q.field line = { q with fields := q.fields ++ [(smallL (cutAt 58 line).1, trimL (cutAt 58 line).2.1)] } := by unfold QS.field; simp only; rw [if_pos h]
    rw [e1, if_neg]
    · refine ⟨by simp [hd, hq], hf, fun _ => ⟨hl.head, hl.line, hl.body, by simp [hl.fields], ?_⟩⟩
      simp only [hm]
      exact ⟨h1, h2, h3, h4, h5, ⟨h6.meth, h6.tgt, h6.minor, h6.has, h6.mi⟩⟩
    · simp only [Bool.and_eq_true] at h
      rw [h.1.1, h.1.2, h.2]; simp
  · have e1 : q.field line = q.no 61 := by unfold QS.field; simp only; rw [if_neg h]
    rw [e1, if_pos]
    · exact Sim.fail 61
    · rw [Bool.not_eq_true] at h
      generalize (cutAt 58 line).2.2 = x1 at *
      generalize allB (cutAt 58 line).1 nameB = x2 at *
      generalize (cutAt 58 line).2.1.all shownB = x3 at *
      cases x1 <;> cases x2 <;> cases x3 <;> simp_all

theorem sim_ends {s : RS} {q : QS} (hd : s.done = false) (hq : q.done = false) (hf : q.fault = s.fault) (hl : SimL s q) (hm : s.mode = .field) (hline : s.line = []) : Sim s.ends.1 q.ends.1 ∧ q.ends.2 = s.ends.2 := by
  have hmode := hl.mode
  rw [hm] at hmode
  obtain ⟨h1, h2, h3, h4, h5, h6⟩ := hmode
  have hcomp := Sim.complete hf hl.body hl.fields h6
  unfold RS.ends QS.ends
  simp only [hl.fields, h6.minor]
  have hql := hl.line
  generalize valuesL hostL s.fields = H
  generalize valuesL codingL s.fields = C
  generalize hL : valuesL longL s.fields = L
  have k1 : ((decide (1 < H.length) || (H.isEmpty && s.minor == 1)) = true) = (1 < H.length ∨ (s.minor = 1 ∧ H.length ≠ 1)) := by
    apply propext
    rcases H with _ | ⟨x, _ | ⟨y, H⟩⟩ <;> simp
  have k2 : ((decide (1 < C.length) || (C.length == 1 && (s.minor == 0 || smallL (C.headD []) != chunkedL))) = true) = (1 < C.length ∨ (C.length = 1 ∧ (s.minor = 0 ∨ smallL (C.headD []) ≠ chunkedL))) := by
    apply propext
    simp
  simp only [k1, k2]
  by_cases c1 : 1 < H.length ∨ (s.minor = 1 ∧ H.length ≠ 1)
  · simp only [if_pos c1]
    exact ⟨Sim.fail 64, trivial⟩
  simp only [if_neg c1]
  by_cases c2 : 1 < C.length ∨ (C.length = 1 ∧ (s.minor = 0 ∨ smallL (C.headD []) ≠ chunkedL))
  · simp only [if_pos c2]
    exact ⟨Sim.fail 69, trivial⟩
  simp only [if_neg c2]
  have hC : C.length = 0 ∨ C.length = 1 := by
    have : ¬ 1 < C.length := fun x => c2 (.inl x)
    omega
  clear k1 k2
  have hsize : Sim { s with left := -1, mode := .size } { q with inn := 2, minor := s.minor, fields := s.fields } := ⟨by simp [hd, hq], hf, fun _ => ⟨hl.head, hl.line, hl.body, rfl, ⟨rfl, rfl, ⟨h6.meth, h6.tgt, rfl, h6.has, h6.mi⟩⟩⟩⟩
  have hbytes : ∀ n : Int, 0 < n → Sim { s with left := n, mode := .bytes } { q with left := n, inn := 1, minor := s.minor, fields := s.fields } := fun n hn => ⟨by simp [hd, hq], hf, fun _ => ⟨hl.head, hl.line, hl.body, rfl, ⟨rfl, rfl, hline, hn, ⟨h6.meth, h6.tgt, rfl, h6.has, h6.mi⟩⟩⟩⟩
  rcases L with _ | ⟨x, _ | ⟨y, L⟩⟩
  · have k3 : ¬ (1 < ([] : List (List UInt8)).length ∨ (([] : List (List UInt8)).length = 1 ∧ (C.length = 1 ∨ longN [] < 0))) := by simp
    have k4 : ¬ (8000 : Int) < 0 := by omega
    simp only [if_neg k3]
    simp only [longN, if_neg k4, Bool.not_true, Bool.false_eq_true, if_false]
    by_cases c5 : C.length = 1
    · have c5' : (C.length == 1) = true := by rw [beq_iff_eq]; exact c5
      simp only [if_pos c5, c5', if_true]
      exact ⟨hsize, trivial⟩
    · have c5' : (C.length == 1) = false := by rw [beq_eq_false_iff_ne]; exact c5
      simp only [if_neg c5, c5', Bool.false_eq_true, if_false, if_true]
      exact hcomp
  · by_cases c3 : C.length = 1
    · have hCe : C.isEmpty = false := by cases C <;> simp_all
      have k3 : 1 < [x].length ∨ ([x].length = 1 ∧ (C.length = 1 ∨ longN [x] < 0)) := .inr ⟨rfl, .inl c3⟩
      simp only [if_pos k3]
      simp only [hCe, Bool.and_false, Bool.not_false, if_true]
      exact ⟨Sim.fail 62, trivial⟩
    · have hCe : C.isEmpty = true := by
        have : C.length = 0 := by omega
        simpa using this
      have c3' : (C.length == 1) = false := by rw [beq_eq_false_iff_ne]; exact c3
      by_cases c4 : (decide (x.length ≤ 10) && allB x digB) = true
      · have hx := c4
        simp only [Bool.and_eq_true, decide_eq_true_eq] at hx
        have hx1 := hx.2
        unfold allB at hx1
        simp only [Bool.and_eq_true, Bool.not_eq_true', List.isEmpty_eq_false_iff] at hx1
        have hxl : ¬ (x.length < 1 ∨ 10 < x.length) := by
          have := List.length_pos_iff.2 hx1.1
          omega
        have h0 := decL_nonneg hx.2 hx.1
        have hN : longN [x] = decL x := by show numberV x = _; unfold numberV; rw [if_neg hxl, if_pos hx1.2]
        have k3 : ¬ (1 < [x].length ∨ ([x].length = 1 ∧ (C.length = 1 ∨ longN [x] < 0))) := by
          rw [hN]
          rintro (y | ⟨_, y | y⟩)
          · simp at y
          · exact c3 y
          · omega
        simp only [if_neg k3]
        simp only [hN, c4, hCe, Bool.and_true, Bool.not_true, Bool.false_eq_true, if_false, c3', if_neg c3]
        by_cases c5 : 8000 < decL x
        · simp only [if_pos c5]
          exact ⟨Sim.fail 65, trivial⟩
        · simp only [if_neg c5]
          by_cases c6 : decL x = 0
          · simp only [if_pos c6]
            exact hcomp
          · simp only [if_neg c6]
            exact ⟨hbytes (decL x) (by omega), trivial⟩
      · have hN : longN [x] = -1 := by
          show numberV x = _
          unfold numberV
          by_cases hxl : x.length < 1 ∨ 10 < x.length
          · rw [if_pos hxl]
          · rw [if_neg hxl, if_neg]
            intro y
            apply c4
            unfold allB
            have hne : x.isEmpty = false := by
              cases x
              · simp at hxl
              · rfl
            rw [y, hne]
            simp
            omega
        have k3 : 1 < [x].length ∨ ([x].length = 1 ∧ (C.length = 1 ∨ longN [x] < 0)) := .inr ⟨rfl, .inr (by rw [hN]; omega)⟩
        have c4' : (decide (x.length ≤ 10) && allB x digB) = false := by simpa only [Bool.not_eq_true] using c4
        simp only [if_pos k3]
        simp only [c4', Bool.false_and, Bool.not_false, if_true]
        exact ⟨Sim.fail 62, trivial⟩
  · have k3 : 1 < (x :: y :: L).length ∨ ((x :: y :: L).length = 1 ∧ (C.length = 1 ∨ longN (x :: y :: L) < 0)) := .inl (by simp)
    simp only [if_pos k3]
    simp only [Bool.not_false, if_true]
    exact ⟨Sim.fail 62, trivial⟩

theorem sim_size {s : RS} {q : QS} (hd : s.done = false) (hq : q.done = false) (hf : q.fault = s.fault) (hl : SimL s q) (hm : s.mode = .size) (hline : s.line = []) (line : List UInt8) :
    Sim (let c := cutAt 59 line; if !allB c.1 hexB || 4 < c.1.length || (!c.2.1.isEmpty && !allB c.2.1 shownB) then s.fail 63
      else if 8000 - s.body.length < hexL c.1 then s.fail 65
      else if hexL c.1 = 0 then { s with mode := .last }
      else { s with left := hexL c.1, mode := .chunk }) (q.size line) := by
  have hmode := hl.mode
  rw [hm] at hmode
  obtain ⟨h1, h2, h6⟩ := hmode
  simp only
  rw [allB_all]
  by_cases c1 : sizeOk line = true
  · have c1' := c1
    unfold sizeOk at c1'
    simp only [Bool.and_eq_true, decide_eq_true_eq] at c1'
    have c1n : ¬ sizeOk line = false := by rw [c1]; simp
    have e0 : (!allB (cutAt 59 line).1 hexB || decide (4 < (cutAt 59 line).1.length) || !(cutAt 59 line).2.1.all shownB) = false := by
      rw [c1'.1.1, c1'.2, decide_eq_false (by omega)]; rfl
    simp only [e0, Bool.false_eq_true, if_false]
    by_cases c2 : 8000 - (s.body.length : Int) < hexL (cutAt 59 line).1
    · have e1 : q.size line = q.no 65 := by unfold QS.size; rw [if_neg c1n, hl.body, if_pos c2]
      rw [e1, if_pos c2]
      exact Sim.fail 65
    · rw [if_neg c2]
      by_cases c3 : hexL (cutAt 59 line).1 = 0
      · have e1 : q.size line = { q with inn := 5 } := by unfold QS.size; rw [if_neg c1n, hl.body, if_neg c2, if_pos c3]
        rw [e1, if_pos c3]
        exact ⟨by simp [hd, hq], hf, fun _ => ⟨hl.head, hl.line, hl.body, hl.fields, ⟨rfl, h2, ⟨h6.meth, h6.tgt, h6.minor, h6.has, h6.mi⟩⟩⟩⟩
      · have e1 : q.size line = { q with left := hexL (cutAt 59 line).1, inn := 3 } := by unfold QS.size; rw [if_neg c1n, hl.body, if_neg c2, if_neg c3]
        rw [e1, if_neg c3]
        have h0 : 0 ≤ hexL (cutAt 59 line).1 := (pw16_bd _ 0 _ (by omega) (by omega) (pw16_hexL c1'.1.1 c1'.1.2)).1
        exact ⟨by simp [hd, hq], hf, fun _ => ⟨hl.head, hl.line, hl.body, hl.fields, ⟨rfl, rfl, hline, by show 0 < hexL (cutAt 59 line).1; omega, ⟨h6.meth, h6.tgt, h6.minor, h6.has, h6.mi⟩⟩⟩⟩
  · have e1 : q.size line = q.no 63 := by unfold QS.size; rw [if_pos (by simpa using c1)]
    rw [e1, if_pos]
    · exact Sim.fail 63
    · rw [Bool.not_eq_true] at c1
      unfold sizeOk at c1
      by_cases x : (cutAt 59 line).1.length ≤ 4
      · simp only [decide_eq_true x, Bool.and_true] at c1
        generalize allB (cutAt 59 line).1 hexB = x1 at *
        generalize (cutAt 59 line).2.1.all shownB = x3 at *
        cases x1 <;> cases x3 <;> simp_all
      · have : 4 < (cutAt 59 line).1.length := by omega
        simp [this]

/-- a byte leaves them alike -/
theorem sim_step {N : Nat} {s : RS} {q : QS} (h : Sim s q) (hw : WF N s) (hd : s.done = false) (b : UInt8) : Sim (s.step b).1 (q.byte b).1 ∧ (q.byte b).2 = (s.step b).2 := by
  have hl := h.live hd
  have hq : q.done = false := h.done.trans hd
  have hmode := hl.mode
  have hf := h.fault
  unfold RS.step QS.byte
  cases hm : s.mode <;> rw [hm] at hmode <;> simp only at hmode ⊢
  · obtain ⟨h1, h2, h3, h4, h5, h6, h7, h8, h9, h10, h11, h12⟩ := hmode
    rw [if_pos h1]
    unfold RS.first QS.inHead RS.counts
    simp only
    rw [hl.head]
    by_cases c0 : 8000 < s.head + 1
    · simp only [if_pos c0]
      exact ⟨⟨rfl, rfl, fun x => by cases x⟩, by first | rfl | trivial⟩
    simp only [if_neg c0, h2]
    by_cases c1 : b = 10
    · subst c1
      simp only [ne_eq, not_true, if_false, if_true, true_and]
      rw [hl.line]
      by_cases c2 : trimCR s.line = []
      · rw [if_pos c2, if_pos c2]
        exact ⟨Sim.begin (by simp [hd, hq]) hf, rfl⟩
      · rw [if_neg c2, if_neg c2]
        refine ⟨sim_start ?_ ?_ ?_ ?_ ?_ ?_ ?_ ?_ ?_ ?_ ?_ ?_ _, rfl⟩ <;> simp_all [hl.head, hl.body, hl.fields, hl.line]
    · rw [if_neg c1]
      simp only [ne_eq, c1, not_false_iff, if_true, true_and]
      by_cases c2 : b = 32
      · rw [if_pos c2, if_pos c2]
        refine ⟨?_, by first | rfl | trivial⟩
        rcases h12 with ⟨k1, k2, k3, k4⟩ | ⟨k1, k2, k3, k4, k5⟩ | ⟨k1, k2, k3⟩
        · rw [if_pos ⟨by omega, k3⟩]
          refine ⟨by simp [QS.put, RS.put, hd, hq], hf, fun _ => ⟨by simp [QS.put, RS.put], by simp [QS.put, RS.put, hl.line], hl.body, hl.fields, ?_⟩⟩
          simp only [RS.put, hm]
          exact ⟨h1, (by first | exact h2 | rfl), h3, h4, h5, h6, h7, h8, h9, h10, h11, .inr (.inl ⟨by first | omega | (simp only; omega) | (simp only [QS.put]; omega), by first | omega | (simp only; omega) | (simp only [QS.put]; omega), rfl, by first | omega | (simp only; omega) | (simp only [QS.put]; omega), by first | omega | (simp only; omega) | (simp only [QS.put]; omega)⟩)⟩
        · rw [if_neg (by rw [k3]; simp)]
          refine ⟨by simp [QS.put, RS.put, hd, hq], hf, fun _ => ⟨by simp [QS.put, RS.put], by simp [QS.put, RS.put, hl.line], hl.body, hl.fields, ?_⟩⟩
          simp only [RS.put, hm]
          exact ⟨h1, (by first | exact h2 | rfl), h3, h4, h5, h6, h7, h8, h9, h10, h11, .inr (.inr ⟨by first | omega | (simp only; omega) | (simp only [QS.put]; omega), rfl, k3⟩)⟩
        · rw [if_neg (by rw [k3]; simp)]
          refine ⟨by simp [QS.put, RS.put, hd, hq], hf, fun _ => ⟨by simp [QS.put, RS.put], by simp [QS.put, RS.put, hl.line], hl.body, hl.fields, ?_⟩⟩
          simp only [RS.put, hm]
          exact ⟨h1, (by first | exact h2 | rfl), h3, h4, h5, h6, h7, h8, h9, h10, h11, .inr (.inr ⟨by first | omega | (simp only; omega) | (simp only [QS.put]; omega), rfl, k3⟩)⟩
      · rw [if_neg c2, if_neg c2]
        rcases h12 with ⟨k1, k2, k3, k4⟩ | ⟨k1, k2, k3, k4, k5⟩ | ⟨k1, k2, k3⟩
        · rw [if_neg (by omega), if_neg (by rw [k2]; omega)]
          refine ⟨⟨by simp [QS.put, RS.put, hd, hq], hf, fun _ => ⟨by simp [QS.put, RS.put], by simp [QS.put, RS.put, hl.line], hl.body, hl.fields, ?_⟩⟩, by first | rfl | trivial⟩
          simp only [RS.put, hm]
          exact ⟨h1, (by first | exact h2 | rfl), h3, h4, h5, h6, h7, h8, h9, h10, h11, .inl ⟨k1, k2, k3, k4⟩⟩
        · rw [if_pos k1, k2, if_pos k4]
          by_cases c3 : 2000 < s.tgt + 1
          · rw [if_pos c3, if_pos c3]
            exact ⟨⟨rfl, rfl, fun x => by cases x⟩, by first | rfl | trivial⟩
          · rw [if_neg c3, if_neg c3]
            refine ⟨⟨by simp [QS.put, RS.put, hd, hq], hf, fun _ => ⟨by simp [QS.put, RS.put], by simp [QS.put, RS.put, hl.line], hl.body, hl.fields, ?_⟩⟩, by first | rfl | trivial⟩
            simp only [RS.put, hm]
            exact ⟨h1, (by first | exact h2 | rfl), h3, h4, h5, h6, h7, h8, h9, h10, h11, .inr (.inl ⟨k1, rfl, k3, by first | omega | (simp only; omega) | (simp only [QS.put]; omega), by first | omega | (simp only; omega) | (simp only [QS.put]; omega)⟩)⟩
        · rw [if_neg (by omega), if_neg (by rw [k2]; omega)]
          refine ⟨⟨by simp [QS.put, RS.put, hd, hq], hf, fun _ => ⟨by simp [QS.put, RS.put], by simp [QS.put, RS.put, hl.line], hl.body, hl.fields, ?_⟩⟩, by first | rfl | trivial⟩
          simp only [RS.put, hm]
          exact ⟨h1, (by first | exact h2 | rfl), h3, h4, h5, h6, h7, h8, h9, h10, h11, .inr (.inr ⟨k1, k2, k3⟩)⟩
  · obtain ⟨h1, h2, h3, h4, h5, h6⟩ := hmode
    rw [if_pos h1]
    unfold RS.field QS.inHead RS.counts
    simp only
    rw [hl.head]
    by_cases c0 : 8000 < s.head + 1
    · simp only [if_pos c0]
      exact ⟨⟨rfl, rfl, fun x => by cases x⟩, by first | rfl | trivial⟩
    simp only [if_neg c0, h2]
    by_cases c1 : b = 10
    · subst c1
      simp only [ne_eq, not_true, if_false, Bool.false_eq_true, false_and]
      rw [hl.line, hl.fields]
      have hl2 : SimL { s with head := s.head + 1, line := [] } { q with head := s.head + 1, first := false, line := [], fields := s.fields } := by
        refine ⟨rfl, rfl, hl.body, rfl, ?_⟩
        simp only [hm]
        exact ⟨h1, (by first | rfl | trivial), h3, h4, h5, ⟨h6.meth, h6.tgt, h6.minor, h6.has, h6.mi⟩⟩
      by_cases c2 : trimCR s.line = []
      · rw [if_pos c2, if_pos c2]
        exact sim_ends hd hq hf hl2 hm rfl
      · rw [if_neg c2, if_neg c2]
        have h50 := hw.flds
        by_cases c3 : s.fields.length = 50
        · have c3' : 50 ≤ s.fields.length := by omega
          simp only [if_pos c3, if_pos c3']
          exact ⟨⟨rfl, rfl, fun x => by cases x⟩, by first | rfl | trivial⟩
        · have c3' : ¬ 50 ≤ s.fields.length := by omega
          simp only [if_neg c3, if_neg c3']
          have hS := sim_field (s := { s with head := s.head + 1, line := [] }) (q := { q with head := s.head + 1, first := false, line := [], fields := s.fields }) hd hq hf hl2 hm (trimCR s.line)
          simp only at hS
          split
          · rename_i hc
            rw [if_pos hc] at hS
            exact ⟨hS, rfl⟩
          · rename_i hc
            rw [if_neg hc] at hS
            exact ⟨hS, rfl⟩
    · rw [if_pos c1]
      simp only [ne_eq, c1, not_false_iff, if_true, Bool.false_eq_true, false_and, if_false]
      refine ⟨⟨by simp [QS.put, RS.put, hd, hq], hf, fun _ => ⟨by simp [QS.put, RS.put], by simp [QS.put, RS.put, hl.line], hl.body, hl.fields, ?_⟩⟩, by first | rfl | trivial⟩
      simp only [RS.put, hm]
      exact ⟨h1, (by first | exact h2 | rfl), h3, h4, h5, ⟨h6.meth, h6.tgt, h6.minor, h6.has, h6.mi⟩⟩
  · obtain ⟨h1, h2, h3, h4, h6⟩ := hmode
    rw [if_neg (by omega), if_pos (.inl h1)]
    unfold RS.bytes QS.inBody
    simp only [h2, h1, and_true]
    by_cases c : s.left - 1 = 0
    · rw [if_pos c, if_pos c]
      exact Sim.complete (s := { s with body := s.body ++ [b], left := s.left - 1 }) (q := { q with body := q.body ++ [b], left := s.left - 1 }) hf (by simp [hl.body]) hl.fields ⟨h6.meth, h6.tgt, h6.minor, h6.has, h6.mi⟩
    · rw [if_neg c, if_neg c, if_neg c]
      refine ⟨⟨by simp [hd, hq], hf, fun _ => ⟨hl.head, hl.line, by simp [hl.body], hl.fields, ?_⟩⟩, by first | rfl | trivial⟩
      simp only [hm]
      exact ⟨by first | exact h1 | trivial, by first | rfl | trivial, h3, by omega, ⟨h6.meth, h6.tgt, h6.minor, h6.has, h6.mi⟩⟩
  · obtain ⟨h1, h2, h6⟩ := hmode
    rw [if_neg (by omega), if_neg (by omega), if_neg (by omega)]
    unfold RS.size QS.inLine RS.chunkLine
    by_cases c : b = 10
    · subst c
      simp only [ne_eq, not_true, if_false, if_true]
      rw [if_pos h1, hl.line]
      have hl2 : SimL { s with line := [] } { q with line := [] } := by
        refine ⟨hl.head, rfl, hl.body, hl.fields, ?_⟩
        simp only [hm]
        exact ⟨h1, h2, ⟨h6.meth, h6.tgt, h6.minor, h6.has, h6.mi⟩⟩
      exact ⟨sim_size (s := { s with line := [] }) (q := { q with line := [] }) hd hq hf hl2 hm rfl _, rfl⟩
    · simp only [ne_eq, c, not_false_iff, if_true, if_false]
      rw [hl.line]
      by_cases c2 : 200 < s.line.length + 1
      · simp only [if_pos c2]
        exact ⟨⟨rfl, rfl, fun x => by cases x⟩, by first | rfl | trivial⟩
      · simp only [if_neg c2]
        refine ⟨⟨by simp [QS.put, RS.put, hd, hq], hf, fun _ => ⟨by simp [QS.put, RS.put, hl.head], by simp [QS.put, RS.put, hl.line], hl.body, hl.fields, ?_⟩⟩, by first | rfl | trivial⟩
        simp only [RS.put, hm]
        exact ⟨h1, h2, ⟨h6.meth, h6.tgt, h6.minor, h6.has, h6.mi⟩⟩
  · obtain ⟨h1, h2, h3, h4, h6⟩ := hmode
    rw [if_neg (by omega), if_pos (.inr h1)]
    unfold RS.chunk QS.inBody
    simp only [h2, h1]
    by_cases c : s.left - 1 = 0
    · rw [if_pos c, if_neg (by omega), if_pos c]
      refine ⟨⟨by simp [hd, hq], hf, fun _ => ⟨hl.head, hl.line, by simp [hl.body], hl.fields, ?_⟩⟩, by first | rfl | trivial⟩
      exact ⟨rfl, rfl, ⟨h6.meth, h6.tgt, h6.minor, h6.has, h6.mi⟩⟩
    · rw [if_neg c, if_neg (by omega), if_neg c]
      refine ⟨⟨by simp [hd, hq], hf, fun _ => ⟨hl.head, hl.line, by simp [hl.body], hl.fields, ?_⟩⟩, by first | rfl | trivial⟩
      simp only [hm]
      exact ⟨by first | exact h1 | trivial, by first | rfl | trivial, h3, by omega, ⟨h6.meth, h6.tgt, h6.minor, h6.has, h6.mi⟩⟩
  · obtain ⟨h1, h2, h6⟩ := hmode
    rw [if_neg (by omega), if_neg (by omega), if_pos h1]
    unfold RS.chunkEnd QS.inEnd
    rw [hl.line]
    refine ⟨?_, by first | rfl | trivial⟩
    by_cases c : b = 10
    · rw [if_pos c, if_pos c]
      exact ⟨by simp [hd, hq], hf, fun _ => ⟨hl.head, rfl, hl.body, hl.fields, ⟨rfl, h2, ⟨h6.meth, h6.tgt, h6.minor, h6.has, h6.mi⟩⟩⟩⟩
    · rw [if_neg c, if_neg c]
      by_cases c2 : b = 13 ∧ s.line = []
      · rw [if_pos c2, if_pos (by simpa using c2)]
        refine ⟨by simp [QS.put, RS.put, hd, hq], hf, fun _ => ⟨by simp [QS.put, RS.put, hl.head], by simp [QS.put, RS.put, hl.line], hl.body, hl.fields, ?_⟩⟩
        simp only [RS.put, hm]
        exact ⟨h1, h2, ⟨h6.meth, h6.tgt, h6.minor, h6.has, h6.mi⟩⟩
      · rw [if_neg c2, if_neg (by simpa using c2)]
        exact Sim.fail 63
  · obtain ⟨h1, h2, h6⟩ := hmode
    rw [if_neg (by omega), if_neg (by omega), if_neg (by omega)]
    unfold RS.last QS.inLine RS.chunkLine
    by_cases c : b = 10
    · subst c
      simp only [ne_eq, not_true, if_false, if_true]
      have h12 : ¬ q.inn = 2 := by omega
      simp only [if_neg h12, hl.line]
      by_cases c2 : trimCR s.line = []
      · simp only [c2, not_true, if_false]
        exact Sim.complete (s := { s with line := [] }) (q := { q with line := [] }) hf hl.body hl.fields ⟨h6.meth, h6.tgt, h6.minor, h6.has, h6.mi⟩
      · simp only [c2, not_false_iff, if_true]
        exact ⟨⟨rfl, rfl, fun x => by cases x⟩, trivial⟩
    · simp only [ne_eq, c, not_false_iff, if_true, if_false]
      rw [hl.line]
      by_cases c2 : 200 < s.line.length + 1
      · simp only [if_pos c2]
        exact ⟨⟨rfl, rfl, fun x => by cases x⟩, trivial⟩
      · simp only [if_neg c2]
        refine ⟨⟨by simp [QS.put, RS.put, hd, hq], hf, fun _ => ⟨by simp [QS.put, RS.put, hl.head], by simp [QS.put, RS.put, hl.line], hl.body, hl.fields, ?_⟩⟩, trivial⟩
        simp only [RS.put, hm]
        exact ⟨h1, h2, ⟨h6.meth, h6.tgt, h6.minor, h6.has, h6.mi⟩⟩

/-- a piece leaves them alike, and tells the same requests -/
theorem sim_feed : ∀ (l : List UInt8) {N : Nat} {s : RS} {q : QS}, Sim s q → WF N s → Sim (s.feed l).1 (q.feed l).1 ∧ (q.feed l).2 = (s.feed l).2
  | [], _, _, _, h, _ => ⟨h, rfl⟩
  | b :: l, N, s, q, h, hw => by
    unfold RS.feed QS.feed
    rw [h.done]
    cases hd : s.done
    · have h1 := sim_step h hw hd b
      have h2 := sim_feed l h1.1 (step_wf hw hd b)
      simp only [Bool.false_eq_true, if_false]
      exact ⟨h2.1, by rw [h1.2, h2.2]⟩
    · simp only [if_true]
      exact ⟨h, trivial⟩

end Go.Proofs.YtdilmefeofdkmaaGreatDoor
