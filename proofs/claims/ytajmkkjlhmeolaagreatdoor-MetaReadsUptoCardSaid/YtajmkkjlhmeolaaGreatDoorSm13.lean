/-
  SEVERAL SMALL TEXTS IN ONE.
-/
import Derived.Test.YtajmkkjlhmeolaaGreatDoorSm11
import Derived.Test.YtajmkkjlhmeolaaGreatDoorMtReadKey
import Derived.Test.YtajmkkjlhmeolaaGreatDoorSm0
import Derived.Lib.AppendStr
/-
  Keys apart: what a version's key is read as (plain).
-/
namespace Go.Proofs.YtajmkkjlhmeolaaGreatDoor
open Go.RowKit Go.Lib

theorem slash_hex {c : UInt8} (h : hexLow c = true) : c ≠ 47 := by
  have h' := of_decide_eq_true h
  intro e
  subst e
  have : (47 : UInt8).toNat = 47 := rfl
  omega
theorem slash_bucket {b : List UInt8} (h : bucketB b = true) : 47 ∉ b := by
  intro hm
  rcases (bucket_bytes h).2 47 hm with h | h
  · have h' := of_decide_eq_true h
    have : (47 : UInt8).toNat = 47 := rfl
    omega
  · cases h
structure VerOK (b k : List UInt8) (n : Int) : Prop where
  b : bucketB b = true
  k : 1 ≤ k.length ∧ k.length ≤ 100
  n : 1 ≤ n ∧ n ≤ 9007199254740991
theorem version_ok {b k : List UInt8} {n : Int} (h : versionKeyL b k n ≠ []) : VerOK b k n := by
  unfold versionKeyL at h
  split at h
  · rename_i h1
    unfold keyL at h
    split at h
    · rename_i h2
      exact ⟨h1.1, h1.2, h2⟩
    · exact absurd rfl h
  · exact absurd rfl h
theorem version_eq {b k : List UInt8} {n : Int} (h : VerOK b k n) : versionKeyL b k n = [118] ++ 47 :: ((b ++ 47 :: k) ++ 47 :: numText n) := by
  unfold versionKeyL
  rw [if_pos ⟨h.b, h.k⟩]
  unfold keyL
  rw [if_pos h.n]
  simp
theorem version_place {b k : List UInt8} {n : Int} (h : VerOK b k n) : placeOf (versionKeyL b k n) = some ⟨118, b, k, n, 0⟩ := by
  have e := version_eq h
  have c1 : cut1 (versionKeyL b k n) 47 = ([118], (b ++ 47 :: k) ++ 47 :: numText n, true) := by rw [e]; exact cut1_at (by decide)
  have hn : 47 ∉ numText n := fun hm => slash_hex ((numText_in ⟨by have := h.n; omega, h.n.2⟩).2.1 47 hm) rfl
  have c2 : cut1 (b ++ 47 :: k) 47 = (b, k, true) := cut1_at (slash_bucket h.b)
  have hc : candOf 118 ((b ++ 47 :: k) ++ 47 :: numText n) = some ⟨118, b, k, n, 0⟩ := by
    show (match lastCut ((b ++ 47 :: k) ++ 47 :: numText n) with | none => none | some (a, b) => some _) = _
    rw [lastCut_at hn]
    simp only
    rw [c2, readNum_text ⟨by have := h.n; omega, h.n.2⟩]
    rfl
  have hk : placeKeyL ⟨118, b, k, n, 0⟩ = versionKeyL b k n := rfl
  unfold placeOf
  rw [c1]
  simp only
  rw [hc]
  simp only
  rw [if_pos ⟨by rw [hk, e]; simp, hk⟩]
theorem version_inj {b k b' k' : List UInt8} {n n' : Int} (h : VerOK b k n) (h' : VerOK b' k' n') (e : versionKeyL b k n = versionKeyL b' k' n') : b = b' ∧ k = k' ∧ n = n' := by
  have e1 := version_place h
  rw [e, version_place h'] at e1
  simp only [Option.some.injEq, PlaceV.mk.injEq, true_and, and_true] at e1
  exact ⟨e1.1.symm, e1.2.1.symm, e1.2.2.symm⟩
theorem version_len {b k : List UInt8} {n : Int} (h : VerOK b k n) : (versionKeyL b k n).length ≤ 183 := by
  rw [version_eq h]
  have := (bucket_bytes h.b).1
  have := h.k
  have := (numText_in ⟨by have := h.n; omega, h.n.2⟩).1
  simp
  omega
theorem key_inj {hd : List UInt8} {n m : Int} (hn : 1 ≤ n ∧ n ≤ 9007199254740991) (hm : 1 ≤ m ∧ m ≤ 9007199254740991) (e : keyL hd n = keyL hd m) : n = m := by
  unfold keyL at e
  rw [if_pos hn, if_pos hm] at e
  have := List.append_cancel_left e
  have h1 := readNum_text (n := n) ⟨by omega, hn.2⟩
  rw [this, readNum_text (n := m) ⟨by omega, hm.2⟩] at h1
  exact (Option.some.inj h1).symm
theorem key_ne {n : Int} (hn : 1 ≤ n ∧ n ≤ 9007199254740991) : keyL [100, 47] n ≠ keyL [117, 47] n := by
  unfold keyL
  rw [if_pos hn, if_pos hn]
  simp
theorem bucketKey_inj {b c : List UInt8} (hb : bucketB b = true) (hc : bucketB c = true) (e : bucketKeyL b = bucketKeyL c) : b = c := by
  unfold bucketKeyL at e
  rw [if_pos hb, if_pos hc] at e
  exact List.append_cancel_left e

end Go.Proofs.YtajmkkjlhmeolaaGreatDoor

/-
  What a call leaves: but for some blocks, and new ones, the world is as it was.
-/
namespace Go.Proofs.YtajmkkjlhmeolaaGreatDoor
open Go.RowKit

/-- but for the blocks M, and new ones, the world is as it was -/
structure Chg (w w' : World) (M : Nat → Prop) : Prop where
  os : w'.os = w.os
  tape : w'.tape = w.tape
  output : w'.output = w.output
  size : w.heap.size ≤ w'.heap.size
  block : ∀ k, k < w.heap.size → ¬ M k → w'.heap[k]? = w.heap[k]?

theorem Chg.refl (w : World) (M : Nat → Prop) : Chg w w M := ⟨rfl, rfl, rfl, Nat.le_refl _, fun _ _ _ => rfl⟩
theorem Chg.trans {a b c : World} {M : Nat → Prop} (h : Chg a b M) (k : Chg b c M) : Chg a c M :=
  ⟨k.os.trans h.os, k.tape.trans h.tape, k.output.trans h.output, Nat.le_trans h.size k.size, fun i hi hm => (k.block i (Nat.lt_of_lt_of_le hi h.size) hm).trans (h.block i hi hm)⟩
theorem Chg.mono {w w' : World} {M N : Nat → Prop} (h : Chg w w' M) (hm : ∀ k, k < w.heap.size → M k → N k) : Chg w w' N := ⟨h.os, h.tape, h.output, h.size, fun k hk hn => h.block k hk (fun x => hn (hm k hk x))⟩
theorem Chg.of_below {w w' : World} {M : Nat → Prop} (h : Below w.heap.size w w') : Chg w w' M := ⟨h.os, h.tape, h.output, h.size, fun k hk _ => h.block k hk⟩
theorem Chg.below {B : Nat} {w w' : World} {M : Nat → Prop} (h : Chg w w' M) (hB : B ≤ w.heap.size) (hm : ∀ k, M k → B ≤ k) : Below B w w' := ⟨h.os, h.tape, h.output, h.size, fun k hk => h.block k (by omega) (fun x => by have := hm k x; omega)⟩
theorem Chg.grown {w w' : World} {row : Option Nat} (h : w.grownBy w' row) : Chg w w' (fun b => some b = row) := ⟨h.os, h.tape, h.output, h.size, h.block⟩
theorem Chg.set (w : World) (a : Addr) (v : Value) : Chg w (w.setCell a v) (fun b => b = a.block) := ⟨rfl, rfl, rfl, by simp [World.setCell], fun k _ hk => Below.heap_setCell _ _ _ _ hk⟩

end Go.Proofs.YtajmkkjlhmeolaaGreatDoor

/-
  append of a text onto a row of bytes of the call's own: and where the new row lies.
-/
namespace Go.Proofs.YtajmkkjlhmeolaaGreatDoor
open Go.RowKit Go.Lib

section
variable {P : Program} (w : World)

theorem run_append_string_at (base : Nat) (t u ty e : TypeId) (i : TypeInfo) (ht : P.underlying t = some (.slice e)) (hu : P.underlying u = some .string) (hi : P.info? e = some i) (hz : i.zero = some (.int .u8 0))
    (hsize : i.size = 1) (hby : i.bytes = 1)
    (v : Value) (n : Nat) (xs : List Value) (hown : w.ownsRow base e 1 v n xs) (s : ByteArray)
    (h63 : n + s.size ≤ maxLen) (hbytes : n + s.size ≤ 140737488355328) (hbase : base ≤ w.heap.size) :
    ∃ v' w', (Builtin.append_ #[t, u] ty #[v, .string s]).run P w = .ok v' w' ∧ w'.ownsRow base e 1 v' (n + s.size) (xs ++ strCells s) ∧ w.grownBy w' v.ownBlock ∧
      (v'.ownBlock = v.ownBlock ∨ ∀ g, v'.ownBlock = some g → w.heap.size ≤ g) := by
  obtain ⟨v', w', hr, h2, h3, _⟩ := run_append_own_string (P := P) w base t u ty e i ht hu hi hz hsize hby v n xs hown s h63 hbytes hbase
  refine ⟨v', w', hr, h2, h3, ?_⟩
  rcases hown.2 with ⟨rfl, rfl⟩ | ⟨g, cap, cur, rfl, hbg, hg, hnc, hcm, hcs, _⟩
  · have hx : xs = [] := List.eq_nil_of_length_eq_zero (by simpa using hown.1)
    subst hx
    obtain ⟨v2, w2, hr2, k2, _, _⟩ := run_append_own_string (P := P) w w.heap.size t u ty e i ht hu hi hz hsize hby (.slice none 0 0) 0 [] (World.ownsRow_nil _ _ _ _) s h63 hbytes (Nat.le_refl _)
    rw [hr] at hr2
    injection hr2 with e1 e2
    subst e1 e2
    exact .inr (fun g hg => (k2.lt g hg).1)
  · by_cases hroom : n + s.size ≤ cap
    · have hr2 := run_append_room_string (P := P) w t u ty e i ht hu hi hsize g n cap cur hg s hroom (by omega)
      rw [hr] at hr2
      injection hr2 with e1 e2
      exact .inl (by rw [e1]; rfl)
    · have hmx : n + s.size ≤ 9223372036854775807 := by simp only [maxLen] at h63; omega
      have hr2 := run_append_grow_string (P := P) w t u ty e i (.int .u8 0) ht hu hi hz ⟨g, 0, none⟩ n cap xs (by rw [hsize]; exact hown.1) (hown.cells (g := g) rfl) s (by omega) (by omega) (by rw [hby]; exact growslice_fits (by omega) (by omega))
      rw [hr] at hr2
      injection hr2 with e1 e2
      exact .inr (fun g' hg' => by rw [e1] at hg'; simp [Value.ownBlock] at hg'; omega)

theorem wpList_append_string_at {ops : Array Oper} {rest : List Oper} {o : Oper} {a : Act} {Q : Exit → Act → World → Prop} (hgd : o.guard = none) (sl x : Operand) (t u : TypeId)
    (ho : o.op = .call { callee := .builtin .append, args := #[sl, x], argTypes := #[t, u] })
    (base : Nat) (e : TypeId) (i : TypeInfo) (ht : P.underlying t = some (.slice e)) (hu : P.underlying u = some .string) (hi : P.info? e = some i) (hz : i.zero = some (.int .u8 0))
    (hsize : i.size = 1) (hby : i.bytes = 1)
    (v : Value) (n : Nat) (xs : List Value) (hs : a.eval sl = v) (hown : w.ownsRow base e 1 v n xs) (s : ByteArray) (hx : a.eval x = .string s)
    (h63 : n + s.size ≤ maxLen) (hbytes : n + s.size ≤ 140737488355328) (hbase : base ≤ w.heap.size)
    (h : ∀ v' w', w'.ownsRow base e 1 v' (n + s.size) (xs ++ strCells s) → w.grownBy w' v.ownBlock → (v'.ownBlock = v.ownBlock ∨ ∀ g, v'.ownBlock = some g → w.heap.size ≤ g) → wpList P ops Q rest (a.put o.dst v') w') : wpList P ops Q (o :: rest) a w := by
  refine wpList_plain hgd fun K hK => ?_
  obtain ⟨v', w', hr, h2, h3, h4⟩ := run_append_string_at (P := P) w base t u o.type e i ht hu hi hz hsize hby v n xs hown s h63 hbytes hbase
  unfold Oper.wp execOp
  simp only [ho, resolve, invoke, builtin, Sem.run_bind, Sem.run_pure, Result.andThen_ok, List.map_toArray, List.map_cons, List.map_nil, hs, hx, hr]
  exact hK _ _ (h v' w' h2 h3 h4)

end
end Go.Proofs.YtajmkkjlhmeolaaGreatDoor
