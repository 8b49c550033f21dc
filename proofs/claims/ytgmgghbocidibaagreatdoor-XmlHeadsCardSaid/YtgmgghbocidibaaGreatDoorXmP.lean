/-
  XML, plain: how a text is read (the places of errors as what is left of the text there), how an element is written.
-/
import Derived.Test.YtgmgghbocidibaaGreatDoorSm0
import Derived.Lib.MapLaws
namespace Go.Proofs.YtgmgghbocidibaaGreatDoor

abbrev Bs := List UInt8
def Bs.str (l : Bs) : ByteArray := ⟨l.toArray⟩
/-- what is read, or the error and how much is left at its place -/
abbrev R (α : Type) := Except (Int × Nat) α

def blankB (b : UInt8) : Bool := b = 32 || b = 9 || b = 10 || b = 13
def firstX (b : UInt8) : Bool := (65 ≤ b && b ≤ 90) || (97 ≤ b && b ≤ 122) || b = 95
def moreX (b : UInt8) : Bool := firstX b || (48 ≤ b && b ≤ 57) || b = 45 || b = 46
def skipL (l : Bs) : Bs := l.dropWhile blankB
def wantL : Bs → Bs → R Bs
  | [], r => .ok r
  | _ :: _, [] => .error (55, 0)
  | b :: p, c :: r => if c = b then wantL p r else .error (55, r.length + 1)
def nameX (also : Bool) (b : UInt8) : Bool := moreX b || (also && b = 58)
def nameL (also : Bool) (r : Bs) : R (Bs × Bs) :=
  match r with
  | [] => .error (55, 0)
  | b :: _ => if firstX b then
      (if 100 < (r.takeWhile (nameX also)).length then .error (55, r.length - 100) else .ok (r.takeWhile (nameX also), r.dropWhile (nameX also)))
    else .error (55, r.length)
/-- one attribute, of which the blanks ahead are read -/
def attrL (r : Bs) : R Bs := do
  let (_, r2) ← nameL true r
  let r3 ← wantL [61] r2
  match r3 with
  | [] => .error (55, 0)
  | q :: r4 => if q = 34 ∨ q = 39 then wantL [q] (r4.dropWhile (fun b => b ≠ 60 && b ≠ q)) else .error (55, r3.length)
def attrsL : Nat → Bs → R Bs
  | 0, r => .ok r
  | f + 1, r =>
    let r1 := skipL r
    if r1.head? = some 47 ∨ r1.head? = some 62 then .ok r1
    else if r1.length = r.length then .error (55, r.length)
    else do
      let r2 ← attrL r1
      attrsL f r2
/-- an element's beginning, with so many around it: its name; has it not ended already? -/
def beginL (around : Nat) (r : Bs) : R (Bs × Bool × Bs) :=
  if around = 20 ∧ r.head? = some 60 then .error (57, r.length) else do
  let r1 ← wantL [60] r
  let (n, r2) ← nameL false r1
  let r3 ← attrsL (r2.length + 1) r2
  if r3.head? = some 47 then
    let r5 ← wantL [62] (r3.drop 1)
    return (n, false, r5)
  else return (n, true, r3.drop 1)

/-! ### characters -/
/-- does XML know a character? -/
def knowsX (c : Int) : Bool := c = 9 || c = 10 || c = 13 || (32 ≤ c && c ≤ 55295) || (57344 ≤ c && c ≤ 65533) || (65536 ≤ c && c ≤ 1114111)
/-- a character's bytes -/
def encX (c : Int) : Bs := Lib.encodeRune c
def digX (base : Nat) (b : UInt8) : Bool := (48 ≤ b && b ≤ 57) || (base = 16 && ((97 ≤ b && b ≤ 102) || (65 ≤ b && b ≤ 70)))
def digV (b : UInt8) : Nat := if b ≤ 57 then b.toNat - 48 else if b ≤ 70 then b.toNat - 55 else b.toNat - 87
def numX (base : Nat) (l : Bs) : Nat := l.foldl (fun n b => base * n + digV b) 0

/-! ### what & tells -/
def namesX : List (Bs × Bs) := [([38, 97, 109, 112, 59], [38]), ([38, 108, 116, 59], [60]), ([38, 103, 116, 59], [62]), ([38, 113, 117, 111, 116, 59], [34]), ([38, 97, 112, 111, 115, 59], [39])]
/-- a character by its number: what it is and what follows; or: might it still become one? -/
def numL (head : Bs) (base most : Nat) (r : Bs) : (Bs × Bs) ⊕ Bool :=
  if head.isPrefixOf r then
    let tail := r.drop head.length
    let n := min (tail.takeWhile (digX base)).length most
    if n = tail.length then .inr true
    else if 0 < n ∧ tail[n]? = some 59 ∧ knowsX (numX base (tail.take n)) then .inl (encX (numX base (tail.take n)), tail.drop (n + 1))
    else .inr false
  else .inr (r.isPrefixOf head)
def refL (r : Bs) : R (Bs × Bs) :=
  match namesX.find? (fun x => x.1.isPrefixOf r) with
  | some x => .ok (x.2, r.drop x.1.length)
  | none =>
    let short := namesX.any (fun x => r.isPrefixOf x.1)
    match numL [38, 35] 10 7 r with
    | .inl x => .ok x
    | .inr s1 =>
      match numL [38, 35, 120] 16 6 r with
      | .inl x => .ok x
      | .inr s2 => .error (55, if short || s1 || s2 then 0 else r.length)

/-! ### elements -/
/-- an element that has not ended -/
structure Opn where
  name : Bs
  text : Bs
  solid : Bool
  kids : List Tree
def opn (n : Bs) : Opn := ⟨n, [], false, []⟩
def Opn.elem (o : Opn) : Tree := .node o.name.str (if o.kids = [] then o.text else []).str o.kids
/-- the innermost one ends: it is laid into the one around it -/
def endL : List Opn → List Opn
  | o :: a :: ps => { a with kids := a.kids ++ [o.elem] } :: ps
  | ps => ps
/-- what stands next within the innermost element -/
def stepL (o : Opn) (around : List Opn) (r : Bs) : R (List Opn × Bs) :=
  if r = [] then .error (55, 0)
  else if r.head? = some 60 then
    if r.length = 1 then .error (55, 0)
    else if (r.drop 1).head? = some 47 then do
      let r1 ← wantL o.name (r.drop 2)
      let r2 ← wantL [62] (skipL r1)
      return (endL (o :: around), r2)
    else if o.solid then .error (55, r.length)
    else do
      let (n, more, r1) ← beginL (around.length + 1) r
      return (if more then opn n :: o :: around else endL (opn n :: o :: around), r1)
  else
    let d := Lib.decodeL r
    let solid := !(r.head?.any blankB)
    if o.kids ≠ [] ∧ solid = true then .error (55, r.length)
    else if r.head? = some 38 then do
      let (t, r1) ← refL r
      return ({ o with solid := true, text := o.text ++ t } :: around, r1)
    else if (d.1 = 65533 ∧ d.2 = 1) ∨ knowsX d.1 = false then .error (55, r.length)
    else .ok ({ o with solid := o.solid || solid, text := o.text ++ encX d.1 } :: around, r.drop d.2)
/-- up to the outermost element's end -/
def runL : Nat → List Opn → Bs → R (Tree × Bs)
  | f + 1, o :: around, r => do
    let (ps, r1) ← stepL o around r
    if around = [] ∧ [60, 47].isPrefixOf r then return (match ps with | o :: _ => o.elem | [] => o.elem, r1)
    else runL f ps r1
  | _, _, r => .error (55, r.length)
def elementL (r : Bs) : R (Tree × Bs) := do
  let (n, more, r1) ← beginL 0 r
  if more then runL (r1.length + 1) [opn n] r1 else return ((opn n).elem, r1)
def headL (r : Bs) : R Bs :=
  let r0 := skipL r
  if [60, 63].isPrefixOf r0 then do
    let r1 ← wantL [60, 63, 120, 109, 108] r0
    let r2 ← wantL [63, 62] (r1.dropWhile (fun b => b ≠ 63))
    return skipL r2
  else .ok r0
def textL (s : Bs) : R Tree := do
  let r1 ← headL s
  let (e, r2) ← elementL r1
  let r3 := skipL r2
  if r3 = [] then return e else .error (55, r3.length)
/-- what a text is read as, or the error and its place -/
def parseL (s : Bs) : Except (Int × Int) Tree :=
  if 8000 < s.length then .error (56, 0)
  else match textL s with
    | .ok e => .ok e
    | .error (c, k) => .error (c, (s.length : Int) - k)

/-! ### what is written -/
def escB (b : UInt8) : Bs := if b = 38 then [38, 97, 109, 112, 59] else if b = 60 then [38, 108, 116, 59] else if b = 62 then [38, 103, 116, 59] else if b = 34 then [38, 113, 117, 111, 116, 59] else if b = 13 then [38, 35, 49, 51, 59] else [b]
def escL (l : Bs) : Bs := l.flatMap escB
mutual
def writeL : Tree → Bs
  | .node n t ks => if t.data.toList = [] ∧ ks = [] then 60 :: n.data.toList ++ [47, 62] else 60 :: n.data.toList ++ 62 :: escL t.data.toList ++ writeKids ks ++ 60 :: 47 :: n.data.toList ++ [62]
def writeKids : List Tree → Bs
  | [] => []
  | k :: ks => writeL k ++ writeKids ks
end
def headX : Bs := "<?xml version=\"1.0\" encoding=\"UTF-8\"?>\n".toUTF8.data.toList
end Go.Proofs.YtgmgghbocidibaaGreatDoor
