/-
  PLAIN DATA of chapter 22: rules, what an element of a rule says.
-/
import Derived.Test.YtnnfcbebjbfkoaaDoorBase
namespace Go.Proofs.YtnnfcbebjbfkoaaDoor
open Go.RowKit

/-- a rule -/
structure RuleV where
  id : ByteArray
  pre : ByteArray
  on : Bool
  days : Int
  nonc : Int
  abort : Int
def RuleV.cells (r : RuleV) : List Value := [.string r.id, .string r.pre, .bool r.on, .int .i64 r.days, .int .i64 r.nonc, .int .i64 r.abort]

/-- the rules of a slice -/
def RulesAt (w : World) (v : Value) (l : List RuleV) : Prop := SlAt w 6 v (l.map RuleV.cells)

end Go.Proofs.YtnnfcbebjbfkoaaDoor
