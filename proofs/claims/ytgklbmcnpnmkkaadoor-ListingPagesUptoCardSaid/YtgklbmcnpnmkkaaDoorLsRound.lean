/-
  A ROUND of a range over a function: what is walked outside of rounds holds within one; one round, from the loop's record.
-/
import Derived.Test.YtgklbmcnpnmkkaaDoorBase
import Derived.RangeFuncSeq
import Derived.OrdersHeld
import Derived.OrdersIn
import Derived.OwnWalkIn
namespace Go.Proofs.YtgklbmcnpnmkkaaDoor
open Go.RowKit

variable {P : Program} {n : Nat}

theorem rows_inWide {row : String} {args : Array Value} {w : World} {R : Value → World → Prop} (h : Rows P row args w R) : RowsIn Fence.wide n P row args w R :=
  fun c cs _ => let ⟨v, w', r, s⟩ := h c cs; ⟨v, w', r, stepsIn_wide.2 s⟩

theorem op_inRound {o : Oper} {a : Act} {w : World} {K : Act → World → Prop} {Q : Exit → Act → World → Prop} (r : Nat) (hd : ∀ c, o.op ≠ .defer c) (h : o.wp P a w K Q) : o.wpIn (Fence.wide.inRound r) n P a w K Q := by
  refine ⟨fun _ _ => trivial, ?_⟩
  have e : o.semAt (Fence.wide.inRound r).round a.eval = execOp a.eval o := Oper.semAt_plain _ _ o hd
  rw [e]
  unfold Oper.wp at h
  generalize (execOp a.eval o).run P w = res at h
  cases res with
  | ok x w' =>
    cases x <;> simp only [Oper.upon, Oper.uponIn] at h ⊢ <;>
      first
        | exact h
        | exact ⟨fun hx => (by cases hx), callsIn_wide.2 h⟩
        | exact ⟨fun hx => (by cases hx), rows_inWide h⟩
  | halt x w' => cases x <;> simp only [Oper.upon, Oper.uponIn] at h ⊢ <;> exact h

def noDefers (ops : List Oper) : Bool := ops.all fun o => match o.op with | .defer _ => false | _ => true
theorem noDefers_get {ops : List Oper} (h : noDefers ops = true) {o : Oper} (ho : o ∈ ops) : ∀ c, o.op ≠ .defer c := by
  intro c hc
  have := List.all_eq_true.1 h o ho
  rw [hc] at this
  cases this

theorem list_inRound {ops : Array Oper} {Q : Exit → Act → World → Prop} (r : Nat) (hQ : ¬ LetsOut Q) : ∀ (l : List Oper) (a : Act) (w : World), noDefers l = true → wpList P ops Q l a w → wpListIn (Fence.wide.inRound r) n P ops Q l a w
  | [], _, _, _, h => h
  | o :: l, a, w, hd, h => by
    have hd0 := noDefers_get hd (o := o) (by simp)
    have hd1 : noDefers l = true := by
      unfold noDefers at hd ⊢
      simp only [List.all_cons, Bool.and_eq_true] at hd
      exact hd.2
    unfold wpList at h
    unfold wpListIn
    split
    · rename_i hw
      rw [if_pos hw] at h
      rcases h with h | ⟨_, h⟩
      · exact Oper.wpIn_mono (fun a w hk => list_inRound r hQ l a w hd1 hk) (op_inRound r hd0 h)
      · exact absurd h hQ
    · rename_i hw
      rw [if_neg hw] at h
      exact ⟨fun _ _ => trivial, list_inRound r hQ l _ _ hd1 h⟩

theorem any_inRound {ops : Array Oper} {md : Region.Mode} {Q : Exit → Act → World → Prop} (r : Nat) (hQ : ¬ LetsOut Q) (hd : noDefers ops.toList = true) : ∀ (fuel : Nat) (listed : Array Bool) (a : Act) (w : World), wpAny P md ops Q fuel listed a w → wpAnyIn (Fence.wide.inRound r) n P md ops Q fuel listed a w
  | 0, _, _, _, h => h
  | fuel + 1, listed, a, w, h => by
    refine ⟨h.1, fun i hi => ?_⟩
    have h1 := h.2 i hi
    unfold wpOp at h1
    unfold wpOpIn
    cases ho : ops[i]? with
    | none =>
      rw [ho] at h1
      exact any_inRound r hQ hd fuel _ _ _ h1
    | some o =>
      rw [ho] at h1
      simp only at h1 ⊢
      have hm : o ∈ ops.toList := by
        have := Array.mem_of_getElem? ho
        simpa using this
      split
      · rename_i hw
        rw [if_pos hw] at h1
        rcases h1 with h1 | ⟨_, h1⟩
        · exact Oper.wpIn_mono (fun a w hk => any_inRound r hQ hd fuel _ a w hk) (op_inRound r (noDefers_get hd hm) h1)
        · exact absurd h1 hQ
      · rename_i hw
        rw [if_neg hw] at h1
        exact ⟨fun _ _ => trivial, any_inRound r hQ hd fuel _ _ _ h1⟩

/-- a region of a round, walked as one outside of it -/
theorem region_inRound {id : Nat} {l : List Oper} {Q : Exit → Act → World → Prop} {a : Act} {w : World} (r : Nat) (hQ : ¬ LetsOut Q) (hd : noDefers l = true) (h : wpList P l.toArray Q l a w) : (Code.region id l.toArray false).wpIn (Fence.wide.inRound r) n P Q a w :=
  wpIn_region_lit (list_inRound r hQ l a w hd h)
theorem drawn_inRound {id : Nat} {ops : Array Oper} {Q : Exit → Act → World → Prop} {S : World → Prop} {a : Act} {w : World} (r : Nat) (hm : P.follows .mixedOrders = true) (hQ : ¬ LetsOut Q) (hd : noDefers ops.toList = true) (hS : S w.drew)
    (h : S w.drew → wpAnyH P .any ops Q S ops.size (Array.replicate ops.size false) a w.drew) : (Code.region id ops true).wpIn (Fence.wide.inRound r) n P Q a w :=
  wpIn_region_any hm (any_inRound r hQ hd _ _ _ _ (wpAny_of_held _ _ _ _ (h hS)))

end Go.Proofs.YtgklbmcnpnmkkaaDoor
