/-
  SEVERAL SMALL TEXTS IN ONE.
-/
import Derived.Test.YtgklbmcnpnmkkaaDoorBase
/-
  LISTING, in plain Lean: rows, entries, pages; the laws on them.
-/
namespace Go.Proofs.YtgklbmcnpnmkkaaDoor
open Go.Op (bytesLess)

structure VerD where
  seq : Int
  null : Bool
  marker : Bool
  etag : List UInt8
  type : List UInt8
  size : Int
  when_ : Int
  blobs : List Int
deriving DecidableEq
structure PartD where
  number : Int
  size : Int
  when_ : Int
  etag : List UInt8
  blob : Int
deriving DecidableEq
structure UplD where
  seq : Int
  bucket : List UInt8
  key : List UInt8
  type : List UInt8
  owner : List UInt8
  when_ : Int
  parts : List PartD
deriving DecidableEq
structure RowD where
  key : List UInt8
  common : Bool
  latest : Bool
  ver : VerD
  upl : UplD
deriving DecidableEq
def verZ : VerD := ⟨0, false, false, [], [], 0, 0, []⟩
def uplZ : UplD := ⟨0, [], [], [], [], 0, []⟩
def rowZ : RowD := ⟨[], false, false, verZ, uplZ⟩
inductive Kind | objs | vers | upls
deriving DecidableEq
/-- what is told of a row -/
def told : Kind → RowD → RowD
  | .objs, r => { rowZ with key := r.key, ver := r.ver }
  | .vers, r => { rowZ with key := r.key, latest := r.latest, ver := r.ver }
  | .upls, r => { rowZ with key := r.key, upl := r.upl }
/-- an entry's number -/
def seqOf : Kind → RowD → Int
  | .objs, _ => 0
  | .vers, r => r.ver.seq
  | .upls, r => r.upl.seq
/-- does a number come behind another one? -/
def behindN : Kind → Int → Int → Bool
  | .objs, _, _ => false
  | .vers, a, b => a < b
  | .upls, a, b => b < a
/-- where a text stands in another one, first -/
def indexL (what : List UInt8) : List UInt8 → Option Nat
  | [] => if what = [] then some 0 else none
  | b :: l => if what.isPrefixOf (b :: l) then some 0 else (indexL what l).map (· + 1)
def comR (key : List UInt8) : RowD := { rowZ with key := key, common := true }
/-- what a row is an entry as (none: it isn't) -/
def entOf (k : Kind) (pre delim : List UInt8) (r : RowD) : Option RowD :=
  if r.common || !pre.isPrefixOf r.key then none
  else match (if delim = [] then none else indexL delim (r.key.drop pre.length)) with
    | none => some (told k r)
    | some n => some (comR (pre ++ (r.key.drop pre.length).take (n + delim.length)))
/-- the entries, behind a last one -/
def ents (k : Kind) (pre delim : List UInt8) : RowD → List RowD → List RowD
  | _, [] => []
  | last, r :: l => match entOf k pre delim r with
    | none => ents k pre delim last l
    | some e => if e.common && last.common && last.key == e.key then ents k pre delim last l else e :: ents k pre delim e l
/-- is an entry beyond a place? -/
def beyond (k : Kind) (after : List UInt8) (seq : Int) (e : RowD) : Bool :=
  !(bytesLess e.key after || e.key == after) || (decide (0 < seq) && !e.common && e.key == after && behindN k (seqOf k e) seq)
structure PageD where
  rows : List RowD
  more : Bool
  next : List UInt8
  entry : Int
deriving DecidableEq
def mostN (most : Int) : Nat := (min (max most 0) 1000).toNat
/-- a page of entries -/
def pageOf (k : Kind) (after : List UInt8) (seq most : Int) (all : List RowD) : PageD :=
  let m := mostN most
  let b := all.filter (beyond k after seq)
  let rows := b.take m
  if 0 < m ∧ m < b.length then ⟨rows, true, (rows.getLastD rowZ).key, seqOf k (rows.getLastD rowZ)⟩ else ⟨rows, false, [], 0⟩
def pageL (k : Kind) (l : List RowD) (pre delim after : List UInt8) (seq most : Int) : PageD := pageOf k after seq most (ents k pre delim rowZ l)

/-- bytes' order -/
theorem less_irrefl : ∀ a : List UInt8, bytesLess a a = false
  | [] => rfl
  | b :: l => by simp [bytesLess, less_irrefl l]
theorem less_trans : ∀ {a b c : List UInt8}, bytesLess a b = true → bytesLess b c = true → bytesLess a c = true
  | _, [], _, h, _ => by simp [bytesLess] at h
  | _, _ :: _, [], _, h => by simp [bytesLess] at h
  | [], _ :: _, _ :: _, _, _ => rfl
  | a :: x, b :: y, c :: z, h1, h2 => by
    simp only [bytesLess, Bool.or_eq_true, decide_eq_true_eq, Bool.and_eq_true, beq_iff_eq] at h1 h2 ⊢
    rcases h1 with h1 | ⟨h1, h3⟩
    · rcases h2 with h2 | ⟨h2, _⟩
      · exact .inl (UInt8.lt_trans h1 h2)
      · subst h2; exact .inl h1
    · subst h1
      rcases h2 with h2 | ⟨h2, h4⟩
      · exact .inl h2
      · exact .inr ⟨h2, less_trans h3 h4⟩
theorem less_tri : ∀ a b : List UInt8, bytesLess a b = true ∨ a = b ∨ bytesLess b a = true
  | [], [] => .inr (.inl rfl)
  | [], _ :: _ => .inl rfl
  | _ :: _, [] => .inr (.inr rfl)
  | a :: x, b :: y => by
    simp only [bytesLess, Bool.or_eq_true, decide_eq_true_eq, Bool.and_eq_true, beq_iff_eq]
    by_cases h : a = b
    · subst h
      rcases less_tri x y with h | h | h
      · exact .inl (.inr ⟨rfl, h⟩)
      · exact .inr (.inl (by rw [h]))
      · exact .inr (.inr (.inr ⟨rfl, h⟩))
    · have hn : a.toNat ≠ b.toNat := fun e => h (UInt8.toNat_inj.1 e)
      by_cases h2 : a.toNat < b.toNat
      · exact .inl (.inl h2)
      · exact .inr (.inr (.inl (show b.toNat < a.toNat by omega)))
theorem less_asymm {a b : List UInt8} (h : bytesLess a b = true) : bytesLess b a = false := by
  cases hb : bytesLess b a
  · rfl
  · have := less_trans h hb
    rw [less_irrefl] at this
    cases this
theorem less_ne {a b : List UInt8} (h : bytesLess a b = true) : a ≠ b := fun e => by rw [e, less_irrefl] at h; cases h
/-- not less and not the same -/
theorem not_le_iff (a b : List UInt8) : (!(bytesLess a b || a == b)) = bytesLess b a := by
  rcases less_tri a b with h | h | h
  · rw [h, less_asymm h]; rfl
  · subst h; simp [less_irrefl]
  · rw [h, less_asymm h]
    have := less_ne h
    simp [Ne.symm this]
def leB (a b : List UInt8) : Prop := bytesLess b a = false
theorem leB_iff {a b : List UInt8} : leB a b ↔ bytesLess a b = true ∨ a = b := by
  unfold leB
  rcases less_tri a b with h | h | h
  · simp [h, less_asymm h]
  · subst h; simp [less_irrefl]
  · constructor
    · intro h2; rw [h] at h2; cases h2
    · rintro (h2 | h2)
      · rw [less_asymm h2] at h; cases h
      · subst h2; rw [less_irrefl] at h; cases h
theorem leB_trans {a b c : List UInt8} (h1 : leB a b) (h2 : leB b c) : leB a c := by
  rw [leB_iff] at *
  rcases h1 with h1 | rfl
  · rcases h2 with h2 | rfl
    · exact .inl (less_trans h1 h2)
    · exact .inl h1
  · exact h2
theorem less_leB {a b c : List UInt8} (h1 : bytesLess a b = true) (h2 : leB b c) : bytesLess a c = true := by
  rcases leB_iff.1 h2 with h2 | rfl
  · exact less_trans h1 h2
  · exact h1
theorem leB_less {a b c : List UInt8} (h1 : leB a b) (h2 : bytesLess b c = true) : bytesLess a c = true := by
  rcases leB_iff.1 h1 with h1 | rfl
  · exact less_trans h1 h2
  · exact h2
/-- a text's beginning is not greater -/
theorem take_le : ∀ (n : Nat) (l : List UInt8), leB (l.take n) l
  | 0, l => by simp [leB]; cases l <;> rfl
  | n + 1, [] => rfl
  | n + 1, b :: l => by
    have := take_le n l
    unfold leB at this ⊢
    simp [bytesLess, this]
/-- a text that is less than one with a beginning, and hasn't it: is less than the beginning -/
theorem less_pre : ∀ (c s x : List UInt8), bytesLess s (c ++ x) = true → c.isPrefixOf s = false → bytesLess s c = true
  | [], s, x, _, h => by simp at h
  | b :: c, [], x, _, _ => rfl
  | b :: c, a :: s, x, h1, h2 => by
    simp only [List.cons_append, bytesLess, Bool.or_eq_true, decide_eq_true_eq, Bool.and_eq_true, beq_iff_eq] at h1 ⊢
    rcases h1 with h1 | ⟨h1, h3⟩
    · exact .inl h1
    · subst h1
      refine .inr ⟨rfl, less_pre c s x h3 ?_⟩
      simpa [List.isPrefixOf] using h2
end Go.Proofs.YtgklbmcnpnmkkaaDoor

/-
  What a call leaves: but for some blocks, and new ones, the world is as it was.
-/
namespace Go.Proofs.YtgklbmcnpnmkkaaDoor
open Go.RowKit

/-- but for the blocks M, and new ones, the world is as it was -/
structure Chg (w w' : World) (M : Nat → Prop) : Prop where
  os : w'.os = w.os
  tape : w'.tape = w.tape
  output : w'.output = w.output
  size : w.heap.size ≤ w'.heap.size
  block : ∀ k, k < w.heap.size → ¬ M k → w'.heap[k]? = w.heap[k]?

theorem Chg.refl (w : World) (M : Nat → Prop) : Chg w w M := ⟨rfl, rfl, rfl, Nat.le_refl _, fun _ _ _ => rfl⟩
theorem Chg.trans {a b c : World} {M : Nat → Prop} (h : Chg a b M) (k : Chg b c M) : Chg a c M :=
  ⟨k.os.trans h.os, k.tape.trans h.tape, k.output.trans h.output, Nat.le_trans h.size k.size, fun i hi hm => (k.block i (Nat.lt_of_lt_of_le hi h.size) hm).trans (h.block i hi hm)⟩
theorem Chg.mono {w w' : World} {M N : Nat → Prop} (h : Chg w w' M) (hm : ∀ k, k < w.heap.size → M k → N k) : Chg w w' N := ⟨h.os, h.tape, h.output, h.size, fun k hk hn => h.block k hk (fun x => hn (hm k hk x))⟩
theorem Chg.of_below {w w' : World} {M : Nat → Prop} (h : Below w.heap.size w w') : Chg w w' M := ⟨h.os, h.tape, h.output, h.size, fun k hk _ => h.block k hk⟩
theorem Chg.below {B : Nat} {w w' : World} {M : Nat → Prop} (h : Chg w w' M) (hB : B ≤ w.heap.size) (hm : ∀ k, M k → B ≤ k) : Below B w w' := ⟨h.os, h.tape, h.output, h.size, fun k hk => h.block k (by omega) (fun x => by have := hm k x; omega)⟩
theorem Chg.grown {w w' : World} {row : Option Nat} (h : w.grownBy w' row) : Chg w w' (fun b => some b = row) := ⟨h.os, h.tape, h.output, h.size, h.block⟩
theorem Chg.set (w : World) (a : Addr) (v : Value) : Chg w (w.setCell a v) (fun b => b = a.block) := ⟨rfl, rfl, rfl, by simp [World.setCell], fun k _ hk => Below.heap_setCell _ _ _ _ hk⟩

end Go.Proofs.YtgklbmcnpnmkkaaDoor
