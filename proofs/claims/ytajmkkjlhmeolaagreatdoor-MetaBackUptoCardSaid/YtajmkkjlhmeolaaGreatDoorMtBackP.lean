/-
  meta: what was told of a right thing is read as that thing, what was told of another one is refused; told texts are short (plain).
-/
import Derived.Test.YtajmkkjlhmeolaaGreatDoorMfRef2
import Derived.Test.YtajmkkjlhmeolaaGreatDoorMfVer
import Derived.Test.YtajmkkjlhmeolaaGreatDoorMfBk
import Derived.Test.YtajmkkjlhmeolaaGreatDoorMfUp
import Derived.Test.YtajmkkjlhmeolaaGreatDoorSm30
namespace Go.Proofs.YtajmkkjlhmeolaaGreatDoor
open Go.RowKit Go.Lib

abbrev Short (t : List UInt8) : Prop := t.length < 10000000000000000
theorem fields_inj {F G : List (List UInt8)} (hF : ∀ t ∈ F, Short t) (hG : ∀ t ∈ G, Short t) (h : F.flatMap fieldL = G.flatMap fieldL) : F = G := by
  have h1 := fieldsL_all F hF
  rw [h, fieldsL_all G hG] at h1
  exact (Option.some.inj h1).symm
theorem short_itoa {n : Int} (h : IntOK n) : Short (itoa n) := itoa_short h.1 h.2
theorem flagN_inj {a b : Bool} (h : itoa (flagN a) = itoa (flagN b)) : a = b := by
  have := itoa_inj h
  cases a <;> cases b <;> simp_all [flagN]

/-! ### parts -/
def partFs (p : PartV) : List (List UInt8) := [[80], itoa p.num, itoa p.size, itoa p.when_, p.etag, itoa p.blob]
theorem partL_fs (p : PartV) : partL p = (partFs p).flatMap fieldL := by rw [partL_eq]; simp [partFs, numL]
theorem partFs_short {p : PartV} (hi : p.IntsOK) (hs : Short p.etag) : ∀ t ∈ partFs p, Short t := by
  obtain ⟨h1, h2, h3, h4⟩ := hi
  intro t ht
  simp only [partFs, List.mem_cons, List.not_mem_nil, or_false] at ht
  rcases ht with rfl | rfl | rfl | rfl | rfl | rfl
  · show _ < _; simp
  · exact short_itoa h1
  · exact short_itoa h2
  · exact short_itoa h3
  · exact hs
  · exact short_itoa h4
theorem PartRight.ints {p : PartV} (h : PartRight p) : p.IntsOK := by
  have h1 := h.num; have h2 := h.size; have h3 := h.when_; have h4 := h.blob
  unfold PartV.IntsOK IntOK
  omega
theorem partL_inj {p q : PartV} (hp : p.IntsOK) (hq : q.IntsOK) (sp : Short p.etag) (sq : Short q.etag) (h : partL p = partL q) : p = q := by
  rw [partL_fs, partL_fs] at h
  have := fields_inj (partFs_short hp sp) (partFs_short hq sq) h
  simp only [partFs, List.cons.injEq] at this
  obtain ⟨_, h1, h2, h3, h4, h5, _⟩ := this
  obtain ⟨a, b, c, d, e⟩ := p
  obtain ⟨a', b', c', d', e'⟩ := q
  simp only at h1 h2 h3 h4 h5
  rw [itoa_inj h1, itoa_inj h2, itoa_inj h3, h4, itoa_inj h5]
theorem part_back {p : PartV} (hp : p.IntsOK) (sp : Short p.etag) : readPartL (partL p) = if partRB p then some p else none := by
  split
  · rename_i h
    exact readPart_text ((partRB_iff p).1 h)
  · rename_i h
    cases hq : readPartL (partL p) with
    | none => rfl
    | some q =>
      obtain ⟨hr, he⟩ := readPart_some hq
      have hx := partL_inj hp hr.ints sp (by have := hr.etag; show _ < _; omega) he
      subst hx
      exact absurd ((partRB_iff p).2 hr) h

/-! ### uploads -/
def upFs (p : UpV) : List (List UInt8) := [[85], itoa p.seq, p.bucket, p.key, p.type, p.owner, itoa p.when_]
theorem upL_fs (p : UpV) : upL p = (upFs p).flatMap fieldL := by simp [upFs, numL, upL]
theorem upFs_short {p : UpV} (h1 : IntOK p.seq) (h2 : IntOK p.when_) (s1 : Short p.bucket) (s2 : Short p.key) (s3 : Short p.type) (s4 : Short p.owner) : ∀ t ∈ upFs p, Short t := by
  intro t ht
  simp only [upFs, List.mem_cons, List.not_mem_nil, or_false] at ht
  rcases ht with rfl | rfl | rfl | rfl | rfl | rfl | rfl
  · show _ < _; simp
  · exact short_itoa h1
  · exact s1
  · exact s2
  · exact s3
  · exact s4
  · exact short_itoa h2
theorem UpRight.short {p : UpV} (h : UpRight p) : ∀ t ∈ upFs p, Short t := by
  have h1 := h.seq; have h2 := (bucket_bytes h.bucket).1; have h3 := h.key; have h4 := h.type; have h5 := h.owner; have h6 := h.when_
  exact upFs_short (by unfold IntOK; omega) (by unfold IntOK; omega) (by show _ < _; omega) (by show _ < _; omega) (by show _ < _; omega) (by show _ < _; omega)
theorem upL_inj {p q : UpV} (hp : ∀ t ∈ upFs p, Short t) (hq : ∀ t ∈ upFs q, Short t) (h : upL p = upL q) : p = q := by
  rw [upL_fs, upL_fs] at h
  have := fields_inj hp hq h
  simp only [upFs, List.cons.injEq] at this
  obtain ⟨_, h1, h2, h3, h4, h5, h6, _⟩ := this
  obtain ⟨a, b, c, d, e, f⟩ := p
  obtain ⟨a', b', c', d', e', f'⟩ := q
  simp only at h1 h2 h3 h4 h5 h6
  rw [itoa_inj h1, h2, h3, h4, h5, itoa_inj h6]
theorem up_back {p : UpV} (hp : ∀ t ∈ upFs p, Short t) : readUpL (upL p) = if upRB p then some p else none := by
  split
  · rename_i h
    exact readUp_text ((upRB_iff p).1 h)
  · rename_i h
    cases hq : readUpL (upL p) with
    | none => rfl
    | some q =>
      obtain ⟨hr, he⟩ := readUp_some hq
      have hx := upL_inj hp hr.short he
      subst hx
      exact absurd ((upRB_iff p).2 hr) h

/-! ### versions -/
def verFs (p : VerV) : List (List UInt8) := [[86], itoa p.seq, itoa (flagN p.null), itoa (flagN p.marker), p.etag, p.type, itoa p.size, itoa p.when_, itoa (p.blobs.length : Int)] ++ p.blobs.map itoa
theorem verL_fs (p : VerV) : verL p = (verFs p).flatMap fieldL := by
  have e : (p.blobs.map itoa).flatMap fieldL = p.blobs.flatMap numL := by rw [List.flatMap_map]; rfl
  unfold verFs
  rw [List.flatMap_append, e]
  simp [numL, verL]
theorem verFs_short {p : VerV} (h1 : IntOK p.seq) (h2 : IntOK p.size) (h3 : IntOK p.when_) (h4 : IntOK (p.blobs.length : Int)) (h5 : ∀ x ∈ p.blobs, IntOK x) (s1 : Short p.etag) (s2 : Short p.type) : ∀ t ∈ verFs p, Short t := by
  intro t ht
  rcases List.mem_append.1 ht with ht | ht
  · simp only [List.mem_cons, List.not_mem_nil, or_false] at ht
    rcases ht with rfl | rfl | rfl | rfl | rfl | rfl | rfl | rfl | rfl
    · show _ < _; simp
    · exact short_itoa h1
    · show _ < _; rw [itoa_flag]; split <;> simp
    · show _ < _; rw [itoa_flag]; split <;> simp
    · exact s1
    · exact s2
    · exact short_itoa h2
    · exact short_itoa h3
    · exact short_itoa h4
  · simp only [List.mem_map] at ht
    obtain ⟨x, hx, rfl⟩ := ht
    exact short_itoa (h5 x hx)
theorem VerRight.short {p : VerV} (h : VerRight p) : ∀ t ∈ verFs p, Short t := by
  have h1 := h.seq; have h2 := h.etag; have h3 := h.type; have h4 := h.size; have h5 := h.when_; have h6 := h.len; have h7 := h.blobs
  exact verFs_short (by unfold IntOK; omega) (by unfold IntOK; omega) (by unfold IntOK; omega) (by unfold IntOK; omega) (fun x hx => by have := h7 x hx; unfold IntOK; omega) (by show _ < _; omega) (by show _ < _; omega)
theorem map_itoa_inj : ∀ {l m : List Int}, l.map itoa = m.map itoa → l = m
  | [], [], _ => rfl
  | [], _ :: _, h => by simp at h
  | _ :: _, [], h => by simp at h
  | x :: l, y :: m, h => by
    simp only [List.map_cons, List.cons.injEq] at h
    rw [itoa_inj h.1, map_itoa_inj h.2]
theorem verL_inj {p q : VerV} (hp : ∀ t ∈ verFs p, Short t) (hq : ∀ t ∈ verFs q, Short t) (h : verL p = verL q) : p = q := by
  rw [verL_fs, verL_fs] at h
  have := fields_inj hp hq h
  simp only [verFs, List.cons_append, List.nil_append, List.cons.injEq] at this
  obtain ⟨_, h1, h2, h3, h4, h5, h6, h7, _, h9⟩ := this
  obtain ⟨a, b, c, d, e, f, g, i⟩ := p
  obtain ⟨a', b', c', d', e', f', g', i'⟩ := q
  simp only at h1 h2 h3 h4 h5 h6 h7 h9
  rw [itoa_inj h1, flagN_inj h2, flagN_inj h3, h4, h5, itoa_inj h6, itoa_inj h7, map_itoa_inj h9]
theorem ver_back {p : VerV} (hp : ∀ t ∈ verFs p, Short t) : readVerL (verL p) = if verRB p then some p else none := by
  split
  · rename_i h
    exact readVer_text ((verRB_iff p).1 h)
  · rename_i h
    cases hq : readVerL (verL p) with
    | none => rfl
    | some q =>
      obtain ⟨hr, he⟩ := readVer_some hq
      have hx := verL_inj hp hr.short he
      subst hx
      exact absurd ((verRB_iff p).2 hr) h

/-! ### buckets -/
def bkFs (p : BkV) : List (List UInt8) := [[66], p.name, p.owner, itoa p.when_, itoa p.mode, p.policy, itoa (p.rules.length : Int)] ++ p.rules.flatMap rlFields
theorem bkL_fs (p : BkV) : bkL p = (bkFs p).flatMap fieldL := by
  have e : ∀ l : List RlV, l.flatMap rlL = (l.flatMap rlFields).flatMap fieldL := by
    intro l
    induction l with
    | nil => rfl
    | cons r l ih => simp [ih, rlFields, rlL, numL]
  unfold bkFs
  rw [List.flatMap_append, ← e]
  simp [numL, bkL]
abbrev RlShort (r : RlV) : Prop := IntOK r.days ∧ IntOK r.nonc ∧ IntOK r.abort ∧ Short r.id ∧ Short r.pre
theorem rlFs_short {r : RlV} (h : RlShort r) : ∀ t ∈ rlFields r, Short t := by
  obtain ⟨h1, h2, h3, s1, s2⟩ := h
  intro t ht
  simp only [rlFields, List.mem_cons, List.not_mem_nil, or_false] at ht
  rcases ht with rfl | rfl | rfl | rfl | rfl | rfl
  · exact s1
  · exact s2
  · show _ < _; rw [itoa_flag]; split <;> simp
  · exact short_itoa h1
  · exact short_itoa h2
  · exact short_itoa h3
theorem bkFs_short {p : BkV} (h1 : IntOK p.when_) (h2 : IntOK p.mode) (h3 : IntOK (p.rules.length : Int)) (h4 : ∀ r ∈ p.rules, RlShort r) (s1 : Short p.name) (s2 : Short p.owner) (s3 : Short p.policy) : ∀ t ∈ bkFs p, Short t := by
  intro t ht
  rcases List.mem_append.1 ht with ht | ht
  · simp only [List.mem_cons, List.not_mem_nil, or_false] at ht
    rcases ht with rfl | rfl | rfl | rfl | rfl | rfl | rfl
    · show _ < _; simp
    · exact s1
    · exact s2
    · exact short_itoa h1
    · exact short_itoa h2
    · exact s3
    · exact short_itoa h3
  · simp only [List.mem_flatMap] at ht
    obtain ⟨x, hx, ht⟩ := ht
    exact rlFs_short (h4 x hx) t ht
theorem RlRight.short {r : RlV} (h : RlRight r) : RlShort r := by
  have h1 := h.id; have h2 := h.pre; have h3 := h.days; have h4 := h.nonc; have h5 := h.abort
  exact ⟨by unfold IntOK; omega, by unfold IntOK; omega, by unfold IntOK; omega, by show _ < _; omega, by show _ < _; omega⟩
theorem BkRight.short {p : BkV} (h : BkRight p) : ∀ t ∈ bkFs p, Short t := by
  have h1 := (bucket_bytes h.name).1; have h2 := h.owner; have h3 := h.policy; have h4 := h.when_; have h5 := h.mode; have h6 := h.len; have h7 := h.rules
  exact bkFs_short (by unfold IntOK; omega) (by unfold IntOK; omega) (by unfold IntOK; omega) (fun r hr => (h7 r hr).short) (by show _ < _; omega) (by show _ < _; omega) (by show _ < _; omega)
theorem rlFields_inj : ∀ {l m : List RlV}, l.flatMap rlFields = m.flatMap rlFields → l = m
  | [], [], _ => rfl
  | [], _ :: _, h => by simp [rlFields] at h
  | _ :: _, [], h => by simp [rlFields] at h
  | x :: l, y :: m, h => by
    simp only [List.flatMap_cons, rlFields, List.cons_append, List.nil_append, List.cons.injEq] at h
    obtain ⟨h1, h2, h3, h4, h5, h6, h7⟩ := h
    obtain ⟨a, b, c, d, e, f⟩ := x
    obtain ⟨a', b', c', d', e', f'⟩ := y
    simp only at h1 h2 h3 h4 h5 h6
    rw [h1, h2, flagN_inj h3, itoa_inj h4, itoa_inj h5, itoa_inj h6, rlFields_inj h7]
theorem bkL_inj {p q : BkV} (hp : ∀ t ∈ bkFs p, Short t) (hq : ∀ t ∈ bkFs q, Short t) (h : bkL p = bkL q) : p = q := by
  rw [bkL_fs, bkL_fs] at h
  have := fields_inj hp hq h
  simp only [bkFs, List.cons_append, List.nil_append, List.cons.injEq] at this
  obtain ⟨_, h1, h2, h3, h4, h5, _, h7⟩ := this
  obtain ⟨a, b, c, d, e, f⟩ := p
  obtain ⟨a', b', c', d', e', f'⟩ := q
  simp only at h1 h2 h3 h4 h5 h7
  rw [h1, h2, itoa_inj h3, itoa_inj h4, h5, rlFields_inj h7]
theorem bk_back {p : BkV} (hp : ∀ t ∈ bkFs p, Short t) : readBkL (bkL p) = if bkRB p then some p else none := by
  split
  · rename_i h
    exact readBk_text ((bkRB_iff p).1 h)
  · rename_i h
    cases hq : readBkL (bkL p) with
    | none => rfl
    | some q =>
      obtain ⟨hr, he⟩ := readBk_some hq
      have hx := bkL_inj hp hr.short he
      subst hx
      exact absurd ((bkRB_iff p).2 hr) h

/-! ### told texts are short -/
theorem itoa_nat_len {n k : Nat} (h : n < 10 ^ (k + 1)) : (itoa (n : Int)).length ≤ k + 1 := by
  rw [itoa_nonneg, decDigits_length]
  exact nDigits_le k n h
theorem fieldL_le {t : List UInt8} {m : Nat} (h : t.length ≤ m) (hm : m < 10000) : (fieldL t).length ≤ m + 6 := by
  have := itoa_nat_len (n := t.length) (k := 3) (by have : (10 : Nat) ^ (3 + 1) = 10000 := by decide
                                                    omega)
  unfold fieldL
  simp only [List.length_append, List.length_cons, List.length_nil]
  omega
theorem numL_le {n : Int} {k : Nat} (h0 : 0 ≤ n) (h : n < 10 ^ (k + 1)) (hk : k < 9000) : (numL n).length ≤ k + 7 := by
  obtain ⟨m, rfl⟩ := Int.eq_ofNat_of_zero_le h0
  have h' : m < 10 ^ (k + 1) := by exact_mod_cast h
  exact fieldL_le (itoa_nat_len h') (by omega)
theorem tp16 : (10 : Int) ^ (15 + 1) = 10000000000000000 := by decide
theorem tp12 : (10 : Int) ^ (11 + 1) = 1000000000000 := by decide
theorem tp5 : (10 : Int) ^ (4 + 1) = 100000 := by decide
theorem tp2 : (10 : Int) ^ (1 + 1) = 100 := by decide
theorem flag_le (b : Bool) : (numL (flagN b)).length ≤ 8 := by
  have := numL_le (n := flagN b) (k := 1) (by cases b <;> simp [flagN]) (by rw [tp2]; cases b <;> simp [flagN]) (by omega)
  exact this
theorem part_short {p : PartV} (h : PartRight p) : (partL p).length ≤ 8000 := by
  have h1 := h.num; have h2 := h.size; have h3 := h.when_; have h4 := h.etag; have h5 := h.blob
  rw [partL_eq]
  have e0 := fieldL_le (t := [80]) (m := 1) (by simp) (by omega)
  have e1 := numL_le (n := p.num) (k := 15) (by omega) (by rw [tp16]; omega) (by omega)
  have e2 := numL_le (n := p.size) (k := 15) (by omega) (by rw [tp16]; omega) (by omega)
  have e3 := numL_le (n := p.when_) (k := 15) (by omega) (by rw [tp16]; omega) (by omega)
  have e4 := fieldL_le h4 (by omega)
  have e5 := numL_le (n := p.blob) (k := 15) (by omega) (by rw [tp16]; omega) (by omega)
  simp only [List.length_append]
  omega
theorem up_short {p : UpV} (h : UpRight p) : (upL p).length ≤ 8000 := by
  have h1 := h.seq; have h2 := (bucket_bytes h.bucket).1; have h3 := h.key; have h4 := h.type; have h5 := h.owner; have h6 := h.when_
  unfold upL
  have e0 := fieldL_le (t := [85]) (m := 1) (by simp) (by omega)
  have e1 := numL_le (n := p.seq) (k := 15) (by omega) (by rw [tp16]; omega) (by omega)
  have e2 := fieldL_le (t := p.bucket) (m := 1000) (by omega) (by omega)
  have e3 := fieldL_le h3.2 (by omega)
  have e4 := fieldL_le h4 (by omega)
  have e5 := fieldL_le h5 (by omega)
  have e6 := numL_le (n := p.when_) (k := 15) (by omega) (by rw [tp16]; omega) (by omega)
  simp only [List.length_append]
  omega
theorem flat_le {α : Type} {f : α → List UInt8} {m : Nat} : ∀ (l : List α), (∀ x ∈ l, (f x).length ≤ m) → (l.flatMap f).length ≤ l.length * m
  | [], _ => by simp
  | x :: l, h => by
    have h1 := h x (by simp)
    have h2 := flat_le l (fun y hy => h y (by simp [hy]))
    simp only [List.flatMap_cons, List.length_append, List.length_cons]
    rw [Nat.add_mul]
    omega
theorem ver_short {p : VerV} (h : VerRight p) : (verL p).length ≤ 8000 := by
  have h1 := h.seq; have h2 := h.etag; have h3 := h.type; have h4 := h.size; have h5 := h.when_; have h6 := h.len; have h7 := h.blobs
  unfold verL
  have e0 := fieldL_le (t := [86]) (m := 1) (by simp) (by omega)
  have e1 := numL_le (n := p.seq) (k := 15) (by omega) (by rw [tp16]; omega) (by omega)
  have e2 := flag_le p.null
  have e3 := flag_le p.marker
  have e4 := fieldL_le h2 (by omega)
  have e5 := fieldL_le h3 (by omega)
  have e6 := numL_le (n := p.size) (k := 15) (by omega) (by rw [tp16]; omega) (by omega)
  have e7 := numL_le (n := p.when_) (k := 15) (by omega) (by rw [tp16]; omega) (by omega)
  have e8 := numL_le (n := (p.blobs.length : Int)) (k := 15) (by omega) (by rw [tp16]; omega) (by omega)
  have e9 := flat_le (f := numL) (m := 22) p.blobs (fun x hx => by have := h7 x hx; exact numL_le (k := 15) (by omega) (by rw [tp16]; omega) (by omega))
  simp only [List.length_append]
  have : p.blobs.length * 22 ≤ 20 * 22 := Nat.mul_le_mul_right _ h6
  omega
theorem bk_short {p : BkV} (h : BkRight p) : (bkL p).length ≤ 8000 := by
  have h1 := (bucket_bytes h.name).1; have h2 := h.owner; have h3 := h.policy; have h4 := h.when_; have h5 := h.mode; have h6 := h.len; have h7 := h.rules
  unfold bkL
  have e0 := fieldL_le (t := [66]) (m := 1) (by simp) (by omega)
  have e1 := fieldL_le (t := p.name) (m := 1000) (by omega) (by omega)
  have e2 := fieldL_le h2 (by omega)
  have e3 := numL_le (n := p.when_) (k := 15) (by omega) (by rw [tp16]; omega) (by omega)
  have e4 := numL_le (n := p.mode) (k := 15) (by omega) (by rw [tp16]; omega) (by omega)
  have e5 := fieldL_le h3 (by omega)
  have e6 := numL_le (n := (p.rules.length : Int)) (k := 15) (by omega) (by rw [tp16]; omega) (by omega)
  have e7 := flat_le (f := rlL) (m := 253) p.rules (fun r hr => by
    have g1 := (h7 r hr).id; have g2 := (h7 r hr).pre; have g3 := (h7 r hr).days; have g4 := (h7 r hr).nonc; have g5 := (h7 r hr).abort
    unfold rlL
    have k1 := fieldL_le g1 (by omega)
    have k2 := fieldL_le g2 (by omega)
    have k3 := flag_le r.on
    have k4 := numL_le (n := r.days) (k := 4) (by omega) (by rw [tp5]; omega) (by omega)
    have k5 := numL_le (n := r.nonc) (k := 4) (by omega) (by rw [tp5]; omega) (by omega)
    have k6 := numL_le (n := r.abort) (k := 4) (by omega) (by rw [tp5]; omega) (by omega)
    simp only [List.length_append]
    omega)
  simp only [List.length_append]
  have : p.rules.length * 253 ≤ 10 * 253 := Nat.mul_le_mul_right _ h6
  omega

end Go.Proofs.YtajmkkjlhmeolaaGreatDoor
