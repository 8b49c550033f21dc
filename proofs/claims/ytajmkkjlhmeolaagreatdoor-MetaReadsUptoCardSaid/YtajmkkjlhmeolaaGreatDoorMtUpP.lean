/-
  An upload's record, and a version's, and a bucket's (plain): what is read is what was written.
-/
import Derived.Test.YtajmkkjlhmeolaaGreatDoorSm18
import Derived.Test.YtajmkkjlhmeolaaGreatDoorMtKeys
import Derived.Test.YtajmkkjlhmeolaaGreatDoorSm13
namespace Go.Proofs.YtajmkkjlhmeolaaGreatDoor
open Go.RowKit Go.Lib

theorem small_field {t : List UInt8} {m : Nat} (h : t.length ≤ m) (hm : m < 9223372036854775808) : t.length < 9223372036854775808 := by omega

/-- an upload (without its parts) -/
structure UpV where
  seq : Int
  bucket : List UInt8
  key : List UInt8
  type : List UInt8
  owner : List UInt8
  when_ : Int
def UpV.cells (p : UpV) : Array Value := #[.int .i64 p.seq, .string ⟨p.bucket.toArray⟩, .string ⟨p.key.toArray⟩, .string ⟨p.type.toArray⟩, .string ⟨p.owner.toArray⟩, .int .i64 p.when_, .slice none 0 0]
def upZero : Array Value := #[.int .i64 0, .string ⟨#[]⟩, .string ⟨#[]⟩, .string ⟨#[]⟩, .string ⟨#[]⟩, .int .i64 0, .slice none 0 0]
structure UpRight (p : UpV) : Prop where
  seq : 1 ≤ p.seq ∧ p.seq ≤ 9007199254740991
  bucket : bucketB p.bucket = true
  key : 1 ≤ p.key.length ∧ p.key.length ≤ 100
  type : p.type.length ≤ 200
  owner : p.owner.length ≤ 100
  when_ : 0 ≤ p.when_ ∧ p.when_ ≤ 253402300799
def upL (p : UpV) : List UInt8 := fieldL [85] ++ (numL p.seq ++ (fieldL p.bucket ++ (fieldL p.key ++ (fieldL p.type ++ (fieldL p.owner ++ numL p.when_)))))

def ru1 (s : List UInt8) : Fs := ofF [85] ⟨s, false⟩
def ru2 (s : List UInt8) : Int × Fs := numberF 1 9007199254740991 (ru1 s)
def ru3 (s : List UInt8) : List UInt8 × Fs := textF (ru2 s).2
def ru4 (s : List UInt8) : List UInt8 × Fs := shortF 100 (ru3 s).2
def ru5 (s : List UInt8) : List UInt8 × Fs := shortF 200 (ru4 s).2
def ru6 (s : List UInt8) : List UInt8 × Fs := shortF 100 (ru5 s).2
def ru7 (s : List UInt8) : Int × Fs := numberF 0 253402300799 (ru6 s).2
def ru8 (s : List UInt8) : Fs := ⟨(ru7 s).2.rest, (ru7 s).2.bad || !bucketB (ru3 s).1 || (ru4 s).1.isEmpty⟩
/-- the upload of which a text is the record -/
def readUpL (s : List UInt8) : Option UpV := if doneF (ru8 s) = 0 then some ⟨(ru2 s).1, (ru3 s).1, (ru4 s).1, (ru5 s).1, (ru6 s).1, (ru7 s).1⟩ else none

theorem readUp_text {p : UpV} (h : UpRight p) : readUpL (upL p) = some p := by
  obtain ⟨q, b, k, t, o, z⟩ := p
  obtain ⟨h1, h2, h3, h4, h5, h6⟩ := h
  simp only at h1 h2 h3 h4 h5 h6
  have hbl := (bucket_bytes h2).1
  have e1 : ru1 (upL ⟨q, b, k, t, o, z⟩) = ⟨numL q ++ (fieldL b ++ (fieldL k ++ (fieldL t ++ (fieldL o ++ numL z)))), false⟩ := ofF_field rfl (by simp) rfl
  have e2 : ru2 (upL ⟨q, b, k, t, o, z⟩) = (q, ⟨fieldL b ++ (fieldL k ++ (fieldL t ++ (fieldL o ++ numL z))), false⟩) := by
    unfold ru2; rw [e1]; exact numberF_field (by omega) (by omega) h1 rfl
  have e3 : ru3 (upL ⟨q, b, k, t, o, z⟩) = (b, ⟨fieldL k ++ (fieldL t ++ (fieldL o ++ numL z)), false⟩) := by
    unfold ru3; rw [e2]; exact textF_field (by omega) rfl
  have e4 : ru4 (upL ⟨q, b, k, t, o, z⟩) = (k, ⟨fieldL t ++ (fieldL o ++ numL z), false⟩) := by
    unfold ru4; rw [e3]; exact shortF_field (by omega) (by omega) rfl
  have e5 : ru5 (upL ⟨q, b, k, t, o, z⟩) = (t, ⟨fieldL o ++ numL z, false⟩) := by
    unfold ru5; rw [e4]; exact shortF_field (by omega) (by omega) rfl
  have e6 : ru6 (upL ⟨q, b, k, t, o, z⟩) = (o, ⟨numL z, false⟩) := by
    unfold ru6; rw [e5]; exact shortF_field (by omega) (by omega) rfl
  have e7 : ru7 (upL ⟨q, b, k, t, o, z⟩) = (z, ⟨[], false⟩) := by
    unfold ru7; rw [e6]; exact numberF_field (by omega) (by omega) h6 (by simp)
  have hk : k.isEmpty = false := by cases k with | nil => simp at h3 | cons => rfl
  have e8 : ru8 (upL ⟨q, b, k, t, o, z⟩) = ⟨[], false⟩ := by
    unfold ru8; rw [e7, e3, e4]; simp [h2, hk]
  unfold readUpL
  rw [e8, e2, e3, e4, e5, e6, e7]
  rfl

theorem readUp_some {s : List UInt8} {p : UpV} (h : readUpL s = some p) : UpRight p ∧ s = upL p := by
  obtain ⟨f1, h1⟩ : ∃ f, ru1 s = f := ⟨_, rfl⟩
  obtain ⟨⟨n2, f2⟩, h2⟩ : ∃ f, ru2 s = f := ⟨_, rfl⟩
  obtain ⟨⟨n3, f3⟩, h3⟩ : ∃ f, ru3 s = f := ⟨_, rfl⟩
  obtain ⟨⟨n4, f4⟩, h4⟩ : ∃ f, ru4 s = f := ⟨_, rfl⟩
  obtain ⟨⟨n5, f5⟩, h5⟩ : ∃ f, ru5 s = f := ⟨_, rfl⟩
  obtain ⟨⟨n6, f6⟩, h6⟩ : ∃ f, ru6 s = f := ⟨_, rfl⟩
  obtain ⟨⟨n7, f7⟩, h7⟩ : ∃ f, ru7 s = f := ⟨_, rfl⟩
  unfold readUpL ru8 at h
  rw [h2, h3, h4, h5, h6, h7] at h
  simp only at h
  unfold ru7 at h7; rw [h6] at h7
  unfold ru6 at h6; rw [h5] at h6
  unfold ru5 at h5; rw [h4] at h5
  unfold ru4 at h4; rw [h3] at h4
  unfold ru3 at h3; rw [h2] at h3
  unfold ru2 at h2; rw [h1] at h2
  unfold ru1 at h1
  split at h
  · rename_i hd
    obtain ⟨hb, hr⟩ := doneF_zero hd
    obtain rfl := Option.some.inj h
    simp only [Bool.or_eq_false_iff, Bool.not_eq_eq_eq_not, Bool.not_false] at hb hr
    obtain ⟨⟨hb7, hbk⟩, hke⟩ := hb
    obtain ⟨b6, r7, q7⟩ := numberF_good h7 hb7
    obtain ⟨b5, r6, q6⟩ := shortF_good h6 b6
    obtain ⟨b4, r5, q5⟩ := shortF_good h5 b5
    obtain ⟨b3, r4, q4⟩ := shortF_good h4 b4
    obtain ⟨b2, q3⟩ := textF_good h3 b3
    obtain ⟨b1, r2, q2⟩ := numberF_good h2 b2
    obtain ⟨b0, q1⟩ := ofF_good (f := ⟨s, false⟩) (k := [85]) (by simp) (by rw [h1]; exact b1)
    rw [h1] at q1
    refine ⟨⟨r2, hbk, ⟨?_, by simp only; omega⟩, by simp only; omega, by simp only; omega, r7⟩, ?_⟩
    · simp only
      cases n4 with
      | nil => cases hke
      | cons => simp
    · simp only at q1
      unfold upL
      simp only
      rw [q1, q2, q3, q4, q5, q6, q7, hr, List.append_nil]
  · cases h

/-- a version -/
structure VerV where
  seq : Int
  null : Bool
  marker : Bool
  etag : List UInt8
  type : List UInt8
  size : Int
  when_ : Int
  blobs : List Int
structure VerRight (p : VerV) : Prop where
  seq : 1 ≤ p.seq ∧ p.seq ≤ 9007199254740991
  etag : p.etag.length ≤ 100
  type : p.type.length ≤ 200
  size : 0 ≤ p.size ∧ p.size ≤ 9007199254740991
  when_ : 0 ≤ p.when_ ∧ p.when_ ≤ 253402300799
  len : p.blobs.length ≤ 20
  blobs : ∀ x ∈ p.blobs, 1 ≤ x ∧ x ≤ 9007199254740991
  mark : p.marker = true → p.size = 0 ∧ p.blobs = [] ∧ p.etag = [] ∧ p.type = []
def flagN (b : Bool) : Int := if b then 1 else 0
def verL (p : VerV) : List UInt8 := fieldL [86] ++ (numL p.seq ++ (numL (flagN p.null) ++ (numL (flagN p.marker) ++ (fieldL p.etag ++ (fieldL p.type ++ (numL p.size ++ (numL p.when_ ++ (numL (p.blobs.length : Int) ++ p.blobs.flatMap numL))))))))

/-- some numbers, one behind the other -/
def numsF (a b : Int) : Nat → Fs → List Int × Fs
  | 0, f => ([], f)
  | k + 1, f => ((numberF a b f).1 :: (numsF a b k (numberF a b f).2).1, (numsF a b k (numberF a b f).2).2)
theorem numsF_len (a b : Int) : ∀ (k : Nat) (f : Fs), (numsF a b k f).2.rest.length ≤ f.rest.length
  | 0, _ => Nat.le_refl _
  | k + 1, f => Nat.le_trans (numsF_len a b k _) (numberF_len a b f)
theorem numsF_size (a b : Int) : ∀ (k : Nat) (f : Fs), (numsF a b k f).1.length = k
  | 0, _ => rfl
  | k + 1, f => by simp [numsF, numsF_size a b k]
theorem numsF_snoc (a b : Int) : ∀ (k : Nat) (f : Fs), numsF a b (k + 1) f = ((numsF a b k f).1 ++ [(numberF a b (numsF a b k f).2).1], (numberF a b (numsF a b k f).2).2)
  | 0, f => rfl
  | k + 1, f => by
    have ih := numsF_snoc a b k (numberF a b f).2
    show ((numberF a b f).1 :: (numsF a b (k + 1) (numberF a b f).2).1, (numsF a b (k + 1) (numberF a b f).2).2) = _
    rw [ih]
    rfl
theorem numsF_field (a b : Int) (h0 : 0 ≤ a) (hb : b ≤ 9223372036854775807) : ∀ (l : List Int) (f : Fs) (r : List UInt8), (∀ x ∈ l, a ≤ x ∧ x ≤ b) → f.rest = l.flatMap numL ++ r → numsF a b l.length f = (l, ⟨r, f.bad⟩)
  | [], f, r, _, h => by simp at h; simp [numsF, ← h]
  | x :: l, f, r, hl, h => by
    have hx := hl x (by simp)
    have e1 : numberF a b f = (x, ⟨l.flatMap numL ++ r, f.bad⟩) := numberF_field (by omega) (by omega) hx (by rw [h]; simp)
    have e2 := numsF_field a b h0 hb l ⟨l.flatMap numL ++ r, f.bad⟩ r (fun y hy => hl y (by simp [hy])) rfl
    show ((numberF a b f).1 :: (numsF a b l.length (numberF a b f).2).1, (numsF a b l.length (numberF a b f).2).2) = _
    rw [e1]
    simp only
    rw [e2]
theorem numsF_good (a b : Int) : ∀ (k : Nat) (f g : Fs) (l : List Int), numsF a b k f = (l, g) → g.bad = false → f.bad = false ∧ l.length = k ∧ (∀ x ∈ l, a ≤ x ∧ x ≤ b) ∧ f.rest = l.flatMap numL ++ g.rest
  | 0, f, g, l, h, hg => by
    simp only [numsF, Prod.mk.injEq] at h
    obtain ⟨rfl, rfl⟩ := h
    exact ⟨hg, rfl, fun x hx => by simp at hx, by simp⟩
  | k + 1, f, g, l, h, hg => by
    obtain ⟨⟨x, f'⟩, hx⟩ : ∃ p, numberF a b f = p := ⟨_, rfl⟩
    obtain ⟨⟨l', g'⟩, hl⟩ : ∃ p, numsF a b k f' = p := ⟨_, rfl⟩
    have h' : ((numberF a b f).1 :: (numsF a b k (numberF a b f).2).1, (numsF a b k (numberF a b f).2).2) = (l, g) := h
    rw [hx] at h'
    simp only at h'
    rw [hl] at h'
    simp only [Prod.mk.injEq] at h'
    obtain ⟨rfl, rfl⟩ := h'
    obtain ⟨b1, r1, r2, r3⟩ := numsF_good a b k f' g' l' hl hg
    obtain ⟨b2, r4, r5⟩ := numberF_good hx b1
    refine ⟨b2, by simp [r1], fun y hy => ?_, by rw [r5, r3]; simp⟩
    rcases List.mem_cons.1 hy with rfl | hy
    · exact r4
    · exact r2 y hy

def rv1 (s : List UInt8) : Fs := ofF [86] ⟨s, false⟩
def rv2 (s : List UInt8) : Int × Fs := numberF 1 9007199254740991 (rv1 s)
def rv3 (s : List UInt8) : Bool × Fs := flagF (rv2 s).2
def rv4 (s : List UInt8) : Bool × Fs := flagF (rv3 s).2
def rv5 (s : List UInt8) : List UInt8 × Fs := shortF 100 (rv4 s).2
def rv6 (s : List UInt8) : List UInt8 × Fs := shortF 200 (rv5 s).2
def rv7 (s : List UInt8) : Int × Fs := numberF 0 9007199254740991 (rv6 s).2
def rv8 (s : List UInt8) : Int × Fs := numberF 0 253402300799 (rv7 s).2
def rv9 (s : List UInt8) : Int × Fs := numberF 0 20 (rv8 s).2
def rvA (s : List UInt8) : List Int × Fs := numsF 1 9007199254740991 (rv9 s).1.toNat (rv9 s).2
def rvB (s : List UInt8) : Fs := ⟨(rvA s).2.rest, (rvA s).2.bad || ((rv4 s).1 && (decide (0 < (rv7 s).1) || decide (0 < (rvA s).1.length) || !((rv5 s).1 ++ (rv6 s).1).isEmpty))⟩
/-- the version of which a text is the record -/
def readVerL (s : List UInt8) : Option VerV := if doneF (rvB s) = 0 then some ⟨(rv2 s).1, (rv3 s).1, (rv4 s).1, (rv5 s).1, (rv6 s).1, (rv7 s).1, (rv8 s).1, (rvA s).1⟩ else none

theorem readVer_text {p : VerV} (h : VerRight p) : readVerL (verL p) = some p := by
  obtain ⟨q, u, m, e, t, z, n, l⟩ := p
  obtain ⟨h1, h2, h3, h4, h5, h6, h7, h8⟩ := h
  simp only at h1 h2 h3 h4 h5 h6 h7 h8
  have e1 : rv1 (verL ⟨q, u, m, e, t, z, n, l⟩) = ⟨numL q ++ (numL (flagN u) ++ (numL (flagN m) ++ (fieldL e ++ (fieldL t ++ (numL z ++ (numL n ++ (numL (l.length : Int) ++ l.flatMap numL))))))), false⟩ := ofF_field rfl (by simp) rfl
  have e2 : rv2 (verL ⟨q, u, m, e, t, z, n, l⟩) = (q, ⟨numL (flagN u) ++ (numL (flagN m) ++ (fieldL e ++ (fieldL t ++ (numL z ++ (numL n ++ (numL (l.length : Int) ++ l.flatMap numL)))))), false⟩) := by
    unfold rv2; rw [e1]; exact numberF_field (by omega) (by omega) h1 rfl
  have e3 : rv3 (verL ⟨q, u, m, e, t, z, n, l⟩) = (u, ⟨numL (flagN m) ++ (fieldL e ++ (fieldL t ++ (numL z ++ (numL n ++ (numL (l.length : Int) ++ l.flatMap numL))))), false⟩) := by
    unfold rv3; rw [e2]; exact flagF_field rfl
  have e4 : rv4 (verL ⟨q, u, m, e, t, z, n, l⟩) = (m, ⟨fieldL e ++ (fieldL t ++ (numL z ++ (numL n ++ (numL (l.length : Int) ++ l.flatMap numL)))), false⟩) := by
    unfold rv4; rw [e3]; exact flagF_field rfl
  have e5 : rv5 (verL ⟨q, u, m, e, t, z, n, l⟩) = (e, ⟨fieldL t ++ (numL z ++ (numL n ++ (numL (l.length : Int) ++ l.flatMap numL))), false⟩) := by
    unfold rv5; rw [e4]; exact shortF_field (by omega) (by omega) rfl
  have e6 : rv6 (verL ⟨q, u, m, e, t, z, n, l⟩) = (t, ⟨numL z ++ (numL n ++ (numL (l.length : Int) ++ l.flatMap numL)), false⟩) := by
    unfold rv6; rw [e5]; exact shortF_field (by omega) (by omega) rfl
  have e7 : rv7 (verL ⟨q, u, m, e, t, z, n, l⟩) = (z, ⟨numL n ++ (numL (l.length : Int) ++ l.flatMap numL), false⟩) := by
    unfold rv7; rw [e6]; exact numberF_field (by omega) (by omega) h4 rfl
  have e8 : rv8 (verL ⟨q, u, m, e, t, z, n, l⟩) = (n, ⟨numL (l.length : Int) ++ l.flatMap numL, false⟩) := by
    unfold rv8; rw [e7]; exact numberF_field (by omega) (by omega) h5 rfl
  have e9 : rv9 (verL ⟨q, u, m, e, t, z, n, l⟩) = ((l.length : Int), ⟨l.flatMap numL, false⟩) := by
    unfold rv9; rw [e8]; exact numberF_field (by omega) (by omega) (by omega) rfl
  have eA : rvA (verL ⟨q, u, m, e, t, z, n, l⟩) = (l, ⟨[], false⟩) := by
    unfold rvA; rw [e9]
    simp only [Int.toNat_natCast]
    exact numsF_field 1 9007199254740991 (by omega) (by omega) l _ [] h7 (by simp)
  have eB : rvB (verL ⟨q, u, m, e, t, z, n, l⟩) = ⟨[], false⟩ := by
    unfold rvB; rw [eA, e4, e7, e5, e6]
    cases m with
    | false => rfl
    | true =>
      obtain ⟨rfl, rfl, rfl, rfl⟩ := h8 rfl
      rfl
  unfold readVerL
  rw [eB, eA, e2, e3, e4, e5, e6, e7, e8]
  rfl

theorem readVer_some {s : List UInt8} {p : VerV} (h : readVerL s = some p) : VerRight p ∧ s = verL p := by
  obtain ⟨f1, h1⟩ : ∃ f, rv1 s = f := ⟨_, rfl⟩
  obtain ⟨⟨n2, f2⟩, h2⟩ : ∃ f, rv2 s = f := ⟨_, rfl⟩
  obtain ⟨⟨n3, f3⟩, h3⟩ : ∃ f, rv3 s = f := ⟨_, rfl⟩
  obtain ⟨⟨n4, f4⟩, h4⟩ : ∃ f, rv4 s = f := ⟨_, rfl⟩
  obtain ⟨⟨n5, f5⟩, h5⟩ : ∃ f, rv5 s = f := ⟨_, rfl⟩
  obtain ⟨⟨n6, f6⟩, h6⟩ : ∃ f, rv6 s = f := ⟨_, rfl⟩
  obtain ⟨⟨n7, f7⟩, h7⟩ : ∃ f, rv7 s = f := ⟨_, rfl⟩
  obtain ⟨⟨n8, f8⟩, h8⟩ : ∃ f, rv8 s = f := ⟨_, rfl⟩
  obtain ⟨⟨n9, f9⟩, h9⟩ : ∃ f, rv9 s = f := ⟨_, rfl⟩
  obtain ⟨⟨nA, fA⟩, hA⟩ : ∃ f, rvA s = f := ⟨_, rfl⟩
  unfold readVerL rvB at h
  rw [h2, h3, h4, h5, h6, h7, h8, hA] at h
  simp only at h
  unfold rvA at hA; rw [h9] at hA
  unfold rv9 at h9; rw [h8] at h9
  unfold rv8 at h8; rw [h7] at h8
  unfold rv7 at h7; rw [h6] at h7
  unfold rv6 at h6; rw [h5] at h6
  unfold rv5 at h5; rw [h4] at h5
  unfold rv4 at h4; rw [h3] at h4
  unfold rv3 at h3; rw [h2] at h3
  unfold rv2 at h2; rw [h1] at h2
  unfold rv1 at h1
  split at h
  · rename_i hd
    obtain ⟨hb, hr⟩ := doneF_zero hd
    obtain rfl := Option.some.inj h
    simp only [Bool.or_eq_false_iff] at hb hr
    obtain ⟨hbA, hmk⟩ := hb
    simp only at hA h9
    obtain ⟨b9, rl, rA, qA⟩ := numsF_good _ _ _ _ _ _ hA hbA
    obtain ⟨b8, r9, q9⟩ := numberF_good h9 b9
    obtain ⟨b7, r8, q8⟩ := numberF_good h8 b8
    obtain ⟨b6, r7, q7⟩ := numberF_good h7 b7
    obtain ⟨b5, r6, q6⟩ := shortF_good h6 b6
    obtain ⟨b4, r5, q5⟩ := shortF_good h5 b5
    obtain ⟨b3, q4⟩ := flagF_good h4 b4
    obtain ⟨b2, q3⟩ := flagF_good h3 b3
    obtain ⟨b1, r2, q2⟩ := numberF_good h2 b2
    obtain ⟨b0, q1⟩ := ofF_good (f := ⟨s, false⟩) (k := [86]) (by simp) (by rw [h1]; exact b1)
    rw [h1] at q1
    have hn9 : (nA.length : Int) = n9 := by rw [rl]; omega
    refine ⟨⟨r2, by simp only; omega, by simp only; omega, r7, r8, by simp only; omega, rA, ?_⟩, ?_⟩
    · intro hm
      simp only at hm ⊢
      subst hm
      simp only [Bool.true_and, Bool.or_eq_false_iff, decide_eq_false_iff_not, Bool.not_eq_eq_eq_not, Bool.not_false, List.isEmpty_iff, List.append_eq_nil_iff] at hmk
      obtain ⟨⟨h1, h2⟩, h3, h4⟩ := hmk
      exact ⟨by omega, List.eq_nil_of_length_eq_zero (by omega), h3, h4⟩
    · simp only at q1
      unfold verL flagN
      simp only
      rw [hn9, q1, q2, q3, q4, q5, q6, q7, q8, q9, qA, hr, List.append_nil]
  · cases h

/-- a rule of a bucket -/
structure RlV where
  id : List UInt8
  pre : List UInt8
  on : Bool
  days : Int
  nonc : Int
  abort : Int
structure RlRight (r : RlV) : Prop where
  id : r.id.length ≤ 100
  pre : r.pre.length ≤ 100
  days : 0 ≤ r.days ∧ r.days ≤ 36500
  nonc : 0 ≤ r.nonc ∧ r.nonc ≤ 36500
  abort : 0 ≤ r.abort ∧ r.abort ≤ 36500
def rlL (r : RlV) : List UInt8 := fieldL r.id ++ (fieldL r.pre ++ (numL (flagN r.on) ++ (numL r.days ++ (numL r.nonc ++ numL r.abort))))
def rl1 (f : Fs) : List UInt8 × Fs := shortF 100 f
def rl2 (f : Fs) : List UInt8 × Fs := shortF 100 (rl1 f).2
def rl3 (f : Fs) : Bool × Fs := flagF (rl2 f).2
def rl4 (f : Fs) : Int × Fs := numberF 0 36500 (rl3 f).2
def rl5 (f : Fs) : Int × Fs := numberF 0 36500 (rl4 f).2
def rl6 (f : Fs) : Int × Fs := numberF 0 36500 (rl5 f).2
def ruleF (f : Fs) : RlV × Fs := (⟨(rl1 f).1, (rl2 f).1, (rl3 f).1, (rl4 f).1, (rl5 f).1, (rl6 f).1⟩, (rl6 f).2)
theorem flagF_len (f : Fs) : (flagF f).2.rest.length ≤ f.rest.length := numberF_len 0 1 f
theorem ruleF_len (f : Fs) : (ruleF f).2.rest.length ≤ f.rest.length := by
  have h1 := (shortF_len 100 f).2
  have h2 := (shortF_len 100 (rl1 f).2).2
  have h3 := flagF_len (rl2 f).2
  have h4 := numberF_len 0 36500 (rl3 f).2
  have h5 := numberF_len 0 36500 (rl4 f).2
  have h6 := numberF_len 0 36500 (rl5 f).2
  exact Nat.le_trans h6 (Nat.le_trans h5 (Nat.le_trans h4 (Nat.le_trans h3 (Nat.le_trans h2 h1))))
theorem ruleF_field {f : Fs} {p : RlV} {r : List UInt8} (h : RlRight p) (hf : f.rest = rlL p ++ r) : ruleF f = (p, ⟨r, f.bad⟩) := by
  obtain ⟨i, q, o, d, n, a⟩ := p
  obtain ⟨h1, h2, h3, h4, h5⟩ := h
  simp only at h1 h2 h3 h4 h5
  unfold rlL at hf
  simp only [List.append_assoc] at hf
  have e1 : rl1 f = (i, ⟨fieldL q ++ (numL (flagN o) ++ (numL d ++ (numL n ++ (numL a ++ r)))), f.bad⟩) := shortF_field (by omega) (by omega) hf
  have e2 : rl2 f = (q, ⟨numL (flagN o) ++ (numL d ++ (numL n ++ (numL a ++ r))), f.bad⟩) := by unfold rl2; rw [e1]; exact shortF_field (by omega) (by omega) rfl
  have e3 : rl3 f = (o, ⟨numL d ++ (numL n ++ (numL a ++ r)), f.bad⟩) := by unfold rl3; rw [e2]; exact flagF_field rfl
  have e4 : rl4 f = (d, ⟨numL n ++ (numL a ++ r), f.bad⟩) := by unfold rl4; rw [e3]; exact numberF_field (by omega) (by omega) h3 rfl
  have e5 : rl5 f = (n, ⟨numL a ++ r, f.bad⟩) := by unfold rl5; rw [e4]; exact numberF_field (by omega) (by omega) h4 rfl
  have e6 : rl6 f = (a, ⟨r, f.bad⟩) := by unfold rl6; rw [e5]; exact numberF_field (by omega) (by omega) h5 rfl
  unfold ruleF
  rw [e1, e2, e3, e4, e5, e6]
theorem ruleF_good {f g : Fs} {p : RlV} (h : ruleF f = (p, g)) (hg : g.bad = false) : f.bad = false ∧ RlRight p ∧ f.rest = rlL p ++ g.rest := by
  obtain ⟨⟨n1, f1⟩, h1⟩ : ∃ x, rl1 f = x := ⟨_, rfl⟩
  obtain ⟨⟨n2, f2⟩, h2⟩ : ∃ x, rl2 f = x := ⟨_, rfl⟩
  obtain ⟨⟨n3, f3⟩, h3⟩ : ∃ x, rl3 f = x := ⟨_, rfl⟩
  obtain ⟨⟨n4, f4⟩, h4⟩ : ∃ x, rl4 f = x := ⟨_, rfl⟩
  obtain ⟨⟨n5, f5⟩, h5⟩ : ∃ x, rl5 f = x := ⟨_, rfl⟩
  obtain ⟨⟨n6, f6⟩, h6⟩ : ∃ x, rl6 f = x := ⟨_, rfl⟩
  unfold ruleF at h
  rw [h1, h2, h3, h4, h5, h6] at h
  simp only [Prod.mk.injEq] at h
  obtain ⟨rfl, rfl⟩ := h
  unfold rl6 at h6; rw [h5] at h6
  unfold rl5 at h5; rw [h4] at h5
  unfold rl4 at h4; rw [h3] at h4
  unfold rl3 at h3; rw [h2] at h3
  unfold rl2 at h2; rw [h1] at h2
  unfold rl1 at h1
  obtain ⟨b5, r6, q6⟩ := numberF_good h6 hg
  obtain ⟨b4, r5, q5⟩ := numberF_good h5 b5
  obtain ⟨b3, r4, q4⟩ := numberF_good h4 b4
  obtain ⟨b2, q3⟩ := flagF_good h3 b3
  obtain ⟨b1, r2, q2⟩ := shortF_good h2 b2
  obtain ⟨b0, r1, q1⟩ := shortF_good h1 b1
  refine ⟨b0, ⟨by simp only; omega, by simp only; omega, r4, r5, r6⟩, ?_⟩
  unfold rlL flagN
  simp only
  rw [q1, q2, q3, q4, q5, q6]
  simp
def rulesF : Nat → Fs → List RlV × Fs
  | 0, f => ([], f)
  | k + 1, f => ((ruleF f).1 :: (rulesF k (ruleF f).2).1, (rulesF k (ruleF f).2).2)
theorem rulesF_len : ∀ (k : Nat) (f : Fs), (rulesF k f).2.rest.length ≤ f.rest.length
  | 0, _ => Nat.le_refl _
  | k + 1, f => Nat.le_trans (rulesF_len k _) (ruleF_len f)
theorem rulesF_size : ∀ (k : Nat) (f : Fs), (rulesF k f).1.length = k
  | 0, _ => rfl
  | k + 1, f => by simp [rulesF, rulesF_size k]
theorem rulesF_snoc : ∀ (k : Nat) (f : Fs), rulesF (k + 1) f = ((rulesF k f).1 ++ [(ruleF (rulesF k f).2).1], (ruleF (rulesF k f).2).2)
  | 0, f => rfl
  | k + 1, f => by
    have ih := rulesF_snoc k (ruleF f).2
    show ((ruleF f).1 :: (rulesF (k + 1) (ruleF f).2).1, (rulesF (k + 1) (ruleF f).2).2) = _
    rw [ih]
    rfl
theorem rulesF_field : ∀ (l : List RlV) (f : Fs) (r : List UInt8), (∀ x ∈ l, RlRight x) → f.rest = l.flatMap rlL ++ r → rulesF l.length f = (l, ⟨r, f.bad⟩)
  | [], f, r, _, h => by simp at h; simp [rulesF, ← h]
  | x :: l, f, r, hl, h => by
    have e1 : ruleF f = (x, ⟨l.flatMap rlL ++ r, f.bad⟩) := ruleF_field (hl x (by simp)) (by rw [h]; simp)
    have e2 := rulesF_field l ⟨l.flatMap rlL ++ r, f.bad⟩ r (fun y hy => hl y (by simp [hy])) rfl
    show ((ruleF f).1 :: (rulesF l.length (ruleF f).2).1, (rulesF l.length (ruleF f).2).2) = _
    rw [e1]
    simp only
    rw [e2]
theorem rulesF_good : ∀ (k : Nat) (f g : Fs) (l : List RlV), rulesF k f = (l, g) → g.bad = false → f.bad = false ∧ l.length = k ∧ (∀ x ∈ l, RlRight x) ∧ f.rest = l.flatMap rlL ++ g.rest
  | 0, f, g, l, h, hg => by
    simp only [rulesF, Prod.mk.injEq] at h
    obtain ⟨rfl, rfl⟩ := h
    exact ⟨hg, rfl, fun x hx => by simp at hx, by simp⟩
  | k + 1, f, g, l, h, hg => by
    obtain ⟨⟨x, f'⟩, hx⟩ : ∃ p, ruleF f = p := ⟨_, rfl⟩
    obtain ⟨⟨l', g'⟩, hl⟩ : ∃ p, rulesF k f' = p := ⟨_, rfl⟩
    have h' : ((ruleF f).1 :: (rulesF k (ruleF f).2).1, (rulesF k (ruleF f).2).2) = (l, g) := h
    rw [hx] at h'
    simp only at h'
    rw [hl] at h'
    simp only [Prod.mk.injEq] at h'
    obtain ⟨rfl, rfl⟩ := h'
    obtain ⟨b1, r1, r2, r3⟩ := rulesF_good k f' g' l' hl hg
    obtain ⟨b2, r4, r5⟩ := ruleF_good hx b1
    refine ⟨b2, by simp [r1], fun y hy => ?_, by rw [r5, r3]; simp⟩
    rcases List.mem_cons.1 hy with rfl | hy
    · exact r4
    · exact r2 y hy

/-- a bucket -/
structure BkV where
  name : List UInt8
  owner : List UInt8
  policy : List UInt8
  when_ : Int
  mode : Int
  rules : List RlV
structure BkRight (p : BkV) : Prop where
  name : bucketB p.name = true
  owner : p.owner.length ≤ 100
  policy : p.policy.length ≤ 4000
  when_ : 0 ≤ p.when_ ∧ p.when_ ≤ 253402300799
  mode : 0 ≤ p.mode ∧ p.mode ≤ 2
  len : p.rules.length ≤ 10
  rules : ∀ x ∈ p.rules, RlRight x
def bkL (p : BkV) : List UInt8 := fieldL [66] ++ (fieldL p.name ++ (fieldL p.owner ++ (numL p.when_ ++ (numL p.mode ++ (fieldL p.policy ++ (numL (p.rules.length : Int) ++ p.rules.flatMap rlL))))))
def rb1 (s : List UInt8) : Fs := ofF [66] ⟨s, false⟩
def rb2 (s : List UInt8) : List UInt8 × Fs := textF (rb1 s)
def rb3 (s : List UInt8) : List UInt8 × Fs := shortF 100 (rb2 s).2
def rb4 (s : List UInt8) : Int × Fs := numberF 0 253402300799 (rb3 s).2
def rb5 (s : List UInt8) : Int × Fs := numberF 0 2 (rb4 s).2
def rb6 (s : List UInt8) : List UInt8 × Fs := shortF 4000 (rb5 s).2
def rb7 (s : List UInt8) : Fs := ⟨(rb6 s).2.rest, (rb6 s).2.bad || !bucketB (rb2 s).1⟩
def rb8 (s : List UInt8) : Int × Fs := numberF 0 10 (rb7 s)
def rb9 (s : List UInt8) : List RlV × Fs := rulesF (rb8 s).1.toNat (rb8 s).2
/-- the bucket of which a text is the record -/
def readBkL (s : List UInt8) : Option BkV := if doneF (rb9 s).2 = 0 then some ⟨(rb2 s).1, (rb3 s).1, (rb6 s).1, (rb4 s).1, (rb5 s).1, (rb9 s).1⟩ else none

theorem readBk_text {p : BkV} (h : BkRight p) : readBkL (bkL p) = some p := by
  obtain ⟨b, o, q, t, m, l⟩ := p
  obtain ⟨h1, h2, h3, h4, h5, h6, h7⟩ := h
  simp only at h1 h2 h3 h4 h5 h6 h7
  have hbl := (bucket_bytes h1).1
  have e1 : rb1 (bkL ⟨b, o, q, t, m, l⟩) = ⟨fieldL b ++ (fieldL o ++ (numL t ++ (numL m ++ (fieldL q ++ (numL (l.length : Int) ++ l.flatMap rlL))))), false⟩ := ofF_field rfl (by simp) rfl
  have e2 : rb2 (bkL ⟨b, o, q, t, m, l⟩) = (b, ⟨fieldL o ++ (numL t ++ (numL m ++ (fieldL q ++ (numL (l.length : Int) ++ l.flatMap rlL)))), false⟩) := by
    unfold rb2; rw [e1]; exact textF_field (by omega) rfl
  have e3 : rb3 (bkL ⟨b, o, q, t, m, l⟩) = (o, ⟨numL t ++ (numL m ++ (fieldL q ++ (numL (l.length : Int) ++ l.flatMap rlL))), false⟩) := by
    unfold rb3; rw [e2]; exact shortF_field (by omega) (by omega) rfl
  have e4 : rb4 (bkL ⟨b, o, q, t, m, l⟩) = (t, ⟨numL m ++ (fieldL q ++ (numL (l.length : Int) ++ l.flatMap rlL)), false⟩) := by
    unfold rb4; rw [e3]; exact numberF_field (by omega) (by omega) h4 rfl
  have e5 : rb5 (bkL ⟨b, o, q, t, m, l⟩) = (m, ⟨fieldL q ++ (numL (l.length : Int) ++ l.flatMap rlL), false⟩) := by
    unfold rb5; rw [e4]; exact numberF_field (by omega) (by omega) h5 rfl
  have e6 : rb6 (bkL ⟨b, o, q, t, m, l⟩) = (q, ⟨numL (l.length : Int) ++ l.flatMap rlL, false⟩) := by
    unfold rb6; rw [e5]; exact shortF_field (by omega) (by omega) rfl
  have e7 : rb7 (bkL ⟨b, o, q, t, m, l⟩) = ⟨numL (l.length : Int) ++ l.flatMap rlL, false⟩ := by
    unfold rb7; rw [e6, e2]; simp [h1]
  have e8 : rb8 (bkL ⟨b, o, q, t, m, l⟩) = ((l.length : Int), ⟨l.flatMap rlL, false⟩) := by
    unfold rb8; rw [e7]; exact numberF_field (by omega) (by omega) (by omega) rfl
  have e9 : rb9 (bkL ⟨b, o, q, t, m, l⟩) = (l, ⟨[], false⟩) := by
    unfold rb9; rw [e8]
    simp only [Int.toNat_natCast]
    exact rulesF_field l _ [] h7 (by simp)
  unfold readBkL
  rw [e9, e2, e3, e4, e5, e6]
  rfl

theorem readBk_some {s : List UInt8} {p : BkV} (h : readBkL s = some p) : BkRight p ∧ s = bkL p := by
  obtain ⟨f1, h1⟩ : ∃ f, rb1 s = f := ⟨_, rfl⟩
  obtain ⟨⟨n2, f2⟩, h2⟩ : ∃ f, rb2 s = f := ⟨_, rfl⟩
  obtain ⟨⟨n3, f3⟩, h3⟩ : ∃ f, rb3 s = f := ⟨_, rfl⟩
  obtain ⟨⟨n4, f4⟩, h4⟩ : ∃ f, rb4 s = f := ⟨_, rfl⟩
  obtain ⟨⟨n5, f5⟩, h5⟩ : ∃ f, rb5 s = f := ⟨_, rfl⟩
  obtain ⟨⟨n6, f6⟩, h6⟩ : ∃ f, rb6 s = f := ⟨_, rfl⟩
  obtain ⟨⟨n8, f8⟩, h8⟩ : ∃ f, rb8 s = f := ⟨_, rfl⟩
  obtain ⟨⟨n9, f9⟩, h9⟩ : ∃ f, rb9 s = f := ⟨_, rfl⟩
  unfold readBkL at h
  rw [h2, h3, h4, h5, h6, h9] at h
  simp only at h
  unfold rb9 at h9; rw [h8] at h9
  unfold rb8 rb7 at h8; rw [h6, h2] at h8
  unfold rb6 at h6; rw [h5] at h6
  unfold rb5 at h5; rw [h4] at h5
  unfold rb4 at h4; rw [h3] at h4
  unfold rb3 at h3; rw [h2] at h3
  unfold rb2 at h2; rw [h1] at h2
  unfold rb1 at h1
  split at h
  · rename_i hd
    obtain ⟨hb9, hr⟩ := doneF_zero hd
    obtain rfl := Option.some.inj h
    simp only at h9 h8
    obtain ⟨b8, rl, rA, q9⟩ := rulesF_good _ _ _ _ h9 hb9
    obtain ⟨b7, r8, q8⟩ := numberF_good h8 b8
    simp only [Bool.or_eq_false_iff, Bool.not_eq_eq_eq_not, Bool.not_false] at b7 q8
    obtain ⟨b6, hbk⟩ := b7
    obtain ⟨b5, r6, q6⟩ := shortF_good h6 b6
    obtain ⟨b4, r5, q5⟩ := numberF_good h5 b5
    obtain ⟨b3, r4, q4⟩ := numberF_good h4 b4
    obtain ⟨b2, r3, q3⟩ := shortF_good h3 b3
    obtain ⟨b1, q2⟩ := textF_good h2 b2
    obtain ⟨b0, q1⟩ := ofF_good (f := ⟨s, false⟩) (k := [66]) (by simp) (by rw [h1]; exact b1)
    rw [h1] at q1
    have hn9 : (n9.length : Int) = n8 := by rw [rl]; omega
    refine ⟨⟨hbk, by simp only; omega, by simp only; omega, r4, r5, by simp only; omega, rA⟩, ?_⟩
    simp only at q1
    unfold bkL
    simp only
    rw [hn9, q1, q2, q3, q4, q5, q6, q8, q9, hr, List.append_nil]
  · cases h

end Go.Proofs.YtajmkkjlhmeolaaGreatDoor
