/-
  leaf, and what days, part, rule, Read compute.
-/
import Derived.Test.YtnnfcbebjbfkoaaDoorTree
import Derived.Test.YtnnfcbebjbfkoaaDoorCyData
import Derived.Lib.ItoaMem
import Derived.Lib.AtoiAll
namespace Go.Proofs.YtnnfcbebjbfkoaaDoor
open Go.RowKit

def leafB (t : Tree) (most : Int) : Bool := t.kids.length == 0 && decide ((t.text.size : Int) ≤ most)
/-- an element as it is handed over -/
abbrev elemV (t : Tree) (a : Option Addr) (c : Nat) : Value := .agg #[.string t.name, .string t.text, .slice a t.kids.length c]

set_option maxHeartbeats 400000 in
theorem leaf_walk (n t : ByteArray) (a : Option Addr) (len c : Nat) (most : Int) (w : World) :
    Calls Tryd.prog 50 #[.agg #[.string n, .string t, .slice a len c], .int .i64 most] w fun e w' => e = .returned (.bool (len == 0 && decide ((t.size : Int) ≤ most))) ∧ Below w.heap.size w w' := by
  by_cases h : len = 0
  · subst h
    go_enter Tryd.func50, Tryd.ntmps50
    go_wp2
    go_ret
    exact ⟨by simp, (by repeat (first | exact Below.refl _ _ | assumption | (refine below_drewN ?_ _) | (refine Below.alloc ?_ (by first | (simp; done) | (simp; omega) | omega) _) | (refine Below.setCell ?_ (by first | (simp; done) | (simp; omega) | omega) _)))⟩
  · have h' : ((len : Int) == 0) = false := beq_eq_false_iff_ne.2 (by omega)
    go_enter Tryd.func50, Tryd.ntmps50
    go_wp2
    go_ret
    exact ⟨by simp [h], (by repeat (first | exact Below.refl _ _ | assumption | (refine below_drewN ?_ _) | (refine Below.alloc ?_ (by first | (simp; done) | (simp; omega) | omega) _) | (refine Below.setCell ?_ (by first | (simp; done) | (simp; omega) | omega) _)))⟩

theorem leaf_any (t : Tree) (a : Option Addr) (c : Nat) (most : Int) (w : World) :
    Calls Tryd.prog 50 #[elemV t a c, .int .i64 most] w fun e w' => e = .returned (.bool (leafB t most)) ∧ Below w.heap.size w w' :=
  leaf_walk _ _ _ _ _ _ _

/-- a number of days, as it is written -/
def dayNum (s : ByteArray) : Int :=
  match Lib.atoiAll s.data.toList with
  | .ok n => if (Lib.itoa n == s.data.toList) && decide (1 ≤ n ∧ n ≤ 36500) then n else 0
  | _ => 0
def daysOf (t : Tree) (name : List UInt8) : Int :=
  match t.kids with
  | [k] => if t.text.toList.isEmpty && (k.name.toList == name) && leafB k 5 then dayNum k.text else 0
  | _ => 0

theorem dayNum_bd (s : ByteArray) : 0 ≤ dayNum s ∧ dayNum s ≤ 36500 := by
  unfold dayNum
  split
  · split
    · rename_i h
      simp at h
      omega
    · omega
  · omega
theorem daysOf_bd (t : Tree) (name : List UInt8) : 0 ≤ daysOf t name ∧ daysOf t name ≤ 36500 := by
  unfold daysOf
  split
  · split
    · exact dayNum_bd _
    · omega
  · omega

def tID : List UInt8 := [73, 68]
def tStatus : List UInt8 := [83, 116, 97, 116, 117, 115]
def tFilter : List UInt8 := [70, 105, 108, 116, 101, 114]
def tExp : List UInt8 := [69, 120, 112, 105, 114, 97, 116, 105, 111, 110]
def tNon : List UInt8 := [78, 111, 110, 99, 117, 114, 114, 101, 110, 116, 86, 101, 114, 115, 105, 111, 110, 69, 120, 112, 105, 114, 97, 116, 105, 111, 110]
def tAbort : List UInt8 := [65, 98, 111, 114, 116, 73, 110, 99, 111, 109, 112, 108, 101, 116, 101, 77, 117, 108, 116, 105, 112, 97, 114, 116, 85, 112, 108, 111, 97, 100]
def tDays : List UInt8 := [68, 97, 121, 115]
def tNonDays : List UInt8 := [78, 111, 110, 99, 117, 114, 114, 101, 110, 116, 68, 97, 121, 115]
def tAfter : List UInt8 := [68, 97, 121, 115, 65, 102, 116, 101, 114, 73, 110, 105, 116, 105, 97, 116, 105, 111, 110]
def tEnabled : List UInt8 := [69, 110, 97, 98, 108, 101, 100]
def tDisabled : List UInt8 := [68, 105, 115, 97, 98, 108, 101, 100]
def tPrefix : List UInt8 := [80, 114, 101, 102, 105, 120]
def tRule : List UInt8 := [82, 117, 108, 101]
def tConf : List UInt8 := [76, 105, 102, 101, 99, 121, 99, 108, 101, 67, 111, 110, 102, 105, 103, 117, 114, 97, 116, 105, 111, 110]

/-- what part makes of a rule and of one kid -/
def partV (r : RuleV) (k : Tree) : RuleV × Bool :=
  if k.name.toList == tID then ({ r with id := k.text }, leafB k 100)
  else if k.name.toList == tStatus then ({ r with on := k.text.toList == tEnabled }, leafB k 100 && (k.text.toList == tEnabled || k.text.toList == tDisabled))
  else if k.name.toList == tFilter then
    if k.text.toList.isEmpty then
      match k.kids with
      | [] => (r, true)
      | [p] => ({ r with pre := p.text }, p.name.toList == tPrefix && leafB p 100)
      | _ => (r, false)
    else (r, false)
  else if k.name.toList == tExp then ({ r with days := daysOf k tDays }, decide (0 < daysOf k tDays))
  else if k.name.toList == tNon then ({ r with nonc := daysOf k tNonDays }, decide (0 < daysOf k tNonDays))
  else if k.name.toList == tAbort then ({ r with abort := daysOf k tAfter }, decide (0 < daysOf k tAfter))
  else (r, false)

def rule0 : RuleV := ⟨⟨#[]⟩, ⟨#[]⟩, false, 0, 0, 0⟩

/-- the kids of a rule, one by one; the names that came ahead -/
def ruleKids (r : RuleV) (seen : List (List UInt8)) : List Tree → Option RuleV
  | [] => some r
  | k :: ks => if seen.contains k.name.toList then none else if (partV r k).2 then ruleKids (partV r k).1 (seen ++ [k.name.toList]) ks else none
def ruleOf (t : Tree) : Option RuleV :=
  match ruleKids rule0 [] t.kids with
  | none => none
  | some r => if t.name.toList == tRule && t.text.toList.isEmpty && (t.kids.map fun k => k.name.toList).contains tStatus && (t.kids.map fun k => k.name.toList).contains tFilter && decide (0 < r.days + r.nonc + r.abort) then some r else none
def readKids : List Tree → Option (List RuleV)
  | [] => some []
  | k :: ks => match ruleOf k with
    | none => none
    | some r => (readKids ks).map fun l => r :: l
def readOf (t : Tree) : Option (List RuleV) :=
  if t.name.toList == tConf && t.text.toList.isEmpty && decide (1 ≤ t.kids.length ∧ t.kids.length ≤ 10) then readKids t.kids else none

end Go.Proofs.YtnnfcbebjbfkoaaDoor
