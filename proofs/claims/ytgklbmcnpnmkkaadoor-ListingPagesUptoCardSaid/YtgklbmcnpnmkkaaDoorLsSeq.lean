/-
  A range over a function whose iterator writes ONE block of its own: what the iterator promises, what its caller owes.
-/
import Derived.Test.YtgklbmcnpnmkkaaDoorLsRound
namespace Go.Proofs.YtgklbmcnpnmkkaaDoor
open Go.RowKit

variable {P : Program}

/-- an iterator that tells xs, one block D of its own beside what lay: J abides new blocks and what D holds; GV: what is told of a value; Kp: what a round keeps -/
def SeqOwn {α : Type} (P : Program) (gf : Nat) (lb : Array Value) (GV : World → Nat → α → Value → Prop) (Kp : Nat → World → World → Prop) (xs : List α) (W : World) : Prop :=
  ∀ (l n : Nat) (J Jx : Nat → List α → World → Prop),
    (∀ D s A B row, W.heap.size ≤ D → J D s A → A.grownBy B row → (∀ r, row = some r → r = D) → J D s B) →
    (∀ D, W.heap.size ≤ D → J D [] W) →
    (∀ m D pre x v A, W.heap.size ≤ D → D < A.heap.size → GV A D x v → J D pre A → pre ++ [x] <+: xs →
      YieldAt Fence.wide m P l #[v] A fun e B => (e = .returned (.bool true) ∧ J D (pre ++ [x]) B ∧ Kp D A B) ∨ (e = .returned (.bool false) ∧ Jx D (pre ++ [x]) B)) →
    CallsIn Fence.wide n P gf (#[.func (.yield l) #[] #[]] ++ lb) W fun e B => (∃ v, e = .returned v) ∧ ∃ D, W.heap.size ≤ D ∧ (J D xs B ∨ ∃ pre, pre <+: xs ∧ Jx D pre B)

/-- how a round may be left (s: the block of the deferred calls; behind it the loop's record) -/
def roundEnd {α : Type} (s : Nat) (Kp : Nat → World → World → Prop) (I : Nat → List α → World → Prop) (Ix : Code → Nat → List α → World → Prop) (D : Nat) (xs : List α) (A A₂ : World) : Exit → Act → World → Prop
  | .normal, _, B => (B.heap[s]? = A₂.heap[s]? ∧ B.heap[s + 1]? = A₂.heap[s + 1]?) ∧ Kp D A B ∧ I D xs B
  | .exit id, _, B => (B.heap[s]? = A₂.heap[s]? ∧ B.heap[s + 1]? = A₂.heap[s + 1]?) ∧ Ix (.exit id) D xs B
  | _, _, _ => False
theorem roundEnd_shut {α : Type} {s : Nat} {Kp : Nat → World → World → Prop} {I : Nat → List α → World → Prop} {Ix : Code → Nat → List α → World → Prop} {D : Nat} {xs : List α} {A A₂ : World} : ¬ LetsOut (roundEnd s Kp I Ix D xs A A₂) := by
  rintro ⟨a, w, h⟩
  exact h

theorem wp_rangeFunc_own {α : Type} {g : Operand} {p : Tmp} {assign body : Code} {Q : Exit → Act → World → Prop} {a : Act} {w : World} {gf : Nat} {lb : Array Value}
    (hg : a.eval g = .func (.func gf) #[] lb) (eg : ∀ args W, (callFunc gf args).run P W = .ok (.enter gf args) W)
    {GV : World → Nat → α → Value → Prop} {Kp : Nat → World → World → Prop} {xs : List α}
    (hseq : ∀ W, Below w.heap.size w W → W.heap.size = w.heap.size + 2 → SeqOwn P gf lb GV Kp xs W)
    (I : Nat → List α → World → Prop) (Ix : Code → Nat → List α → World → Prop)
    (hI : ∀ D s A B row, w.heap.size + 2 ≤ D → I D s A → A.grownBy B row → (∀ r, row = some r → r = D ∨ r = w.heap.size + 1) → I D s B)
    (hIx : ∀ c D s A B, Ix c D s A → A.grownBy B (some (w.heap.size + 1)) → Ix c D s B)
    (hKp : ∀ D A B B', Kp D A B → B.grownBy B' (some (w.heap.size + 1)) → Kp D A B')
    (h0 : ∀ D, w.heap.size + 2 ≤ D → I D [] w)
    (hround : ∀ m D pre x v A, w.heap.size + 2 ≤ D → D < A.heap.size → GV A D x v → I D pre A → A.heap[w.heap.size]? = some (.deferred (some [])) → (∃ r, A.heap[w.heap.size + 1]? = some (.loop r)) → pre ++ [x] <+: xs →
      assign.wpIn (Fence.wide.inRound (w.heap.size + 1)) m P (Exit.then (fun a₁ A₁ => A₁.heap[w.heap.size]? = A.heap[w.heap.size]? ∧ A₁.heap[w.heap.size + 1]? = A.heap[w.heap.size + 1]? ∧ ∀ A₂, A₁.grownBy A₂ (some (w.heap.size + 1)) →
        body.wpIn (Fence.wide.inRound (w.heap.size + 1)) m P (roundEnd w.heap.size Kp I Ix D (pre ++ [x]) A A₂) a₁ A₂) (fun _ _ _ => False)) { tmps := a.tmps.setIfInBounds p v, defers := [] } A)
    (hdone : ∀ D W, w.heap.size + 2 ≤ D → I D xs W → W.heap[w.heap.size]? = some (.deferred (some [])) → Q .normal { a with defers := { target := .collected w.heap.size, args := #[] } :: a.defers } W)
    (hstop : ∀ D c pre W, w.heap.size + 2 ≤ D → pre <+: xs → Ix c D pre W → W.heap[w.heap.size]? = some (.deferred (some [])) → c.wp P Q { a with defers := { target := .collected w.heap.size, args := #[] } :: a.defers } W) :
    (Code.rangeFunc g #[p] assign body).wp P Q a w := by
  refine (wpIn_wide (n := 1)).1 (wpIn_rangeFunc ?_)
  intro fn hfn
  obtain ⟨rec, hrec⟩ : ∃ rec : LoopState → Option Code → Loop, rec = fun st pe => { state := st, pending := pe, fn, tmps := a.tmps, params := #[p], assign, body, defers := w.heap.size } := ⟨_, rfl⟩
  obtain ⟨W1, hW1⟩ : ∃ W1, (w.alloc (.deferred (some []))).alloc (.loop (rec .ready none)) = W1 := ⟨_, rfl⟩
  have hsz : W1.heap.size = w.heap.size + 2 := by rw [← hW1]; simp
  have hb1 : Below w.heap.size w W1 := by rw [← hW1]; exact ((Below.refl _ w).alloc (Nat.le_refl _) _).alloc (by simp) _
  have hg1 : w.grownBy W1 none := ⟨hb1.os, hb1.tape, hb1.output, hb1.size, fun k hk _ => hb1.block k hk⟩
  have hL1 : W1.heap[w.heap.size + 1]? = some (.loop (rec .ready none)) := by
    rw [← hW1]; have := World.alloc_heap_new (w.alloc (.deferred (some []))) (.loop (rec .ready none)); rwa [World.size_alloc] at this
  have hK1 : W1.heap[w.heap.size]? = some (.deferred (some [])) := by
    rw [← hW1]; exact (Below.heap_alloc _ _ _ (by simp)).trans (World.alloc_heap_new w _)
  refine ⟨w.heap.size + 1, [{ target := .collected w.heap.size, args := #[] }], W1, { target := .fn (.func gf) lb, args := #[.func (.yield (w.heap.size + 1)) #[] #[]] }, W1, gf,
    #[.func (.yield (w.heap.size + 1)) #[] #[]] ++ lb, W1, ?_, ?_, fun _ _ => trivial, ?_, fun _ => Nat.le_refl _, ?_⟩
  · rw [← hW1, hrec]; exact run_enterLoop_outer _ _ _ _ _
  · simp only [resolve, hg]
    simp [go_sem]
  · simp [invoke, go_sem, eg]
  refine (hseq W1 hb1 hsz (w.heap.size + 1) 0
    (fun D pre W => I D pre W ∧ W.heap[w.heap.size + 1]? = some (.loop (rec .ready none)) ∧ W.heap[w.heap.size]? = some (.deferred (some [])))
    (fun D pre W => ∃ c, Ix c D pre W ∧ W.heap[w.heap.size + 1]? = some (.loop (rec .done (some c))) ∧ W.heap[w.heap.size]? = some (.deferred (some [])))
    ?_ ?_ ?_).mono ?_
  · rintro D s A B row hD ⟨h1, h2, h3⟩ hgr hr
    have hlt : ∀ {k : Nat} {o : Obj}, A.heap[k]? = some o → k < A.heap.size := fun h => (Array.getElem?_eq_some_iff.1 h).1
    exact ⟨hI D s A B row (by omega) h1 hgr (fun r hrr => .inl (hr r hrr)),
      (hgr.block _ (hlt h2) (fun e => by have := hr _ e.symm; omega)).trans h2, (hgr.block _ (hlt h3) (fun e => by have := hr _ e.symm; omega)).trans h3⟩
  · exact fun D hD => ⟨hI D [] w W1 none (by omega) (h0 D (by omega)) hg1 (fun r hr => by cases hr), hL1, hK1⟩
  · rintro m D pre x v A hD hDl hgv ⟨hi, hl, hk⟩ hpx
    have hlt : w.heap.size + 1 < A.heap.size := (Array.getElem?_eq_some_iff.1 hl).1
    have hy := run_yield (P := P) (args := #[v]) hl (by rw [hrec]; rfl)
    rw [hrec] at hy
    refine ⟨fn, _, assign, body, hy, roundIn_of_wpIn hfn ?_⟩
    have htm : ∀ (t : Array Value), ((#[p].zip #[v]).foldl (fun tmps (x : Tmp × Value) => match x with | (t, a) => tmps.setIfInBounds t a) t) = t.setIfInBounds p v := fun t => by simp
    simp only [htm]
    refine Code.wpIn_mono ?_ (hround m D pre x v A (by omega) hDl hgv hi hk ⟨_, hl⟩ hpx)
    intro e a₁ A₁ hq
    cases e with
    | normal =>
      obtain ⟨q1, q2, hq⟩ := hq
      have hl1 : A₁.heap[w.heap.size + 1]? = some (.loop (rec .ready none)) := q2.trans hl
      have hk1 : A₁.heap[w.heap.size]? = some (.deferred (some [])) := q1.trans hk
      refine ⟨_, run_beginRound hl1 (by rw [hrec]), ?_⟩
      have hl2 : (A₁.putObj (w.heap.size + 1) (.loop { rec .ready none with state := .busy })).heap[w.heap.size + 1]? = some (.loop { rec .ready none with state := .busy }) := World.putObj_heap_same (Array.getElem?_eq_some_iff.1 hl1).1
      have hk2 : (A₁.putObj (w.heap.size + 1) (.loop { rec .ready none with state := .busy })).heap[w.heap.size]? = some (.deferred (some [])) := (World.putObj_heap_other (by omega)).trans hk1
      have hgp : ∀ (X : World) (o : Obj), X.grownBy (X.putObj (w.heap.size + 1) o) (some (w.heap.size + 1)) := fun X o => ⟨rfl, rfl, rfl, by simp, fun k _ hk => World.putObj_heap_other (fun e => hk (by rw [e]))⟩
      refine Code.wpIn_mono ?_ (hq _ (hgp _ _))
      intro e a3 B hp
      have fin : ∀ (jump : Option Code), (B.heap[w.heap.size]? = (A₁.putObj (w.heap.size + 1) (.loop { rec .ready none with state := .busy })).heap[w.heap.size]? ∧ B.heap[w.heap.size + 1]? = (A₁.putObj (w.heap.size + 1) (.loop { rec .ready none with state := .busy })).heap[w.heap.size + 1]?) →
          (Instr.endRound (w.heap.size + 1) jump).run P B = .ok (.bool jump.isNone) (B.putObj (w.heap.size + 1) (.loop (rec (if jump.isNone then .ready else .done) jump))) ∧
          (B.putObj (w.heap.size + 1) (.loop (rec (if jump.isNone then .ready else .done) jump))).heap[w.heap.size + 1]? = some (.loop (rec (if jump.isNone then .ready else .done) jump)) ∧
          (B.putObj (w.heap.size + 1) (.loop (rec (if jump.isNone then .ready else .done) jump))).heap[w.heap.size]? = some (.deferred (some [])) := fun jump hh => by
        have hl3 := hh.2.trans hl2
        have := run_endRound (P := P) jump hl3
        rw [hrec] at this ⊢
        exact ⟨this, World.putObj_heap_same (Array.getElem?_eq_some_iff.1 hl3).1, (World.putObj_heap_other (by omega)).trans (hh.1.trans hk2)⟩
      cases e with
      | normal =>
        obtain ⟨hh, hkp, hi3⟩ := hp
        obtain ⟨hr, hl4, hk4⟩ := fin none hh
        exact ⟨_, _, hr, .inl ⟨rfl, ⟨hI D _ _ _ _ (by omega) hi3 (hgp _ _) (fun r hr => by cases hr; exact .inr rfl), hl4, hk4⟩, hKp D _ _ _ hkp (hgp _ _)⟩⟩
      | exit id =>
        obtain ⟨hh, hi3⟩ := hp
        obtain ⟨hr, hl4, hk4⟩ := fin (some (.exit id)) hh
        exact ⟨_, _, hr, .inr ⟨rfl, .exit id, hIx _ D _ _ _ hi3 (hgp _ _), hl4, hk4⟩⟩
      | ret => exact hp.elim
      | goto t => exact hp.elim
      | panic ch => exact hp.elim
      | outgrown => exact hp.elim
    | exit id => exact hq
    | ret => exact hq
    | goto t => exact hq
    | panic ch => exact hq
    | outgrown => exact hq
  · rintro e B ⟨⟨v, rfl⟩, D, hD, (⟨hi, hl, hk⟩ | ⟨pre, hpre, c, hi, hl, hk⟩)⟩
    · have := run_endLoop (P := P) hl (by rw [hrec]; simp)
      rw [hrec] at this
      refine ⟨none, _, this, hdone D _ (by omega) (hI D xs B _ (some (w.heap.size + 1)) (by omega) hi ⟨rfl, rfl, rfl, by simp, fun k _ hk => World.putObj_heap_other (fun e => hk (by rw [e]))⟩ (fun r hr => by cases hr; exact .inr rfl)) ((World.putObj_heap_other (by omega)).trans hk)⟩
    · have := run_endLoop (P := P) hl (by rw [hrec]; simp)
      rw [hrec] at this
      exact ⟨some c, _, this, wpIn_wide.2 (hstop D c pre _ (by omega) hpre (hIx c D pre B _ hi ⟨rfl, rfl, rfl, by simp, fun k _ hk => World.putObj_heap_other (fun e => hk (by rw [e]))⟩) ((World.putObj_heap_other (by omega)).trans hk))⟩

end Go.Proofs.YtgklbmcnpnmkkaaDoor
