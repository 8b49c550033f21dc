/-
  SEVERAL SMALL TEXTS IN ONE.
-/
import Derived.Test.YtgmgghbocidibaaGreatDoorSm0
import Derived.Deep.LoopGhost
import Derived.Lib.MapLaws
/-
  storehouseref15: scan.char, Plain, first, more.
-/
namespace Go.Proofs.YtgmgghbocidibaaGreatDoor
open Go.RowKit Go.PlainAid

/-- a character that XML knows: its bytes; 0: none -/
def charN (s : ByteArray) (i : Nat) : Int :=
  if utfN s i = 0 then 0
  else if utfN s i = 1 ∧ bt s i < 32 ∧ bt s i ≠ 9 ∧ bt s i ≠ 10 ∧ bt s i ≠ 13 then 0
  else if (s.extract i (i + (utfN s i).toNat)).toList = [239, 191, 190] ∨ (s.extract i (i + (utfN s i).toNat)).toList = [239, 191, 191] then 0
  else utfN s i

set_option maxHeartbeats 1000000 in
theorem char_any (s : ByteArray) (i b : Nat) (w : World) (hs : s.size ≤ 140737488351232) (hi : i < s.size)
    (h0 : w.cell? ⟨b, 0, none⟩ = some (.string s)) (h1 : w.cell? ⟨b, 1, none⟩ = some (.int .i64 i)) :
    Calls Tryz.prog 66 #[.pointer (some ⟨b, 0, none⟩)] w fun e w' => e = .returned (.int .i64 (charN s i)) ∧ ∃ n, w' = w.drewN n := by
  have hb := get_bt s
  have U := Lib.hid (fun w => (utf_any s i w hs (by omega)).mono (fun _ _ h => (⟨h.1, h.2.symm⟩ : _ ∧ _)))
  have bd := utfN_bd s i
  obtain ⟨n, hn⟩ : ∃ n : Nat, Hid (utfN s i = n) := ⟨(utfN s i).toNat, by show _ = _; omega⟩
  rw [hn.out] at U bd
  obtain ⟨_, n4, nb⟩ := bd
  by_cases hz : n = 0
  · subst hz
    have e : charN s i = 0 := by unfold charN; rw [if_pos (by rw [hn.out]; rfl)]
    rw [e]
    go_enter Tryz.func66, Tryz.ntmps66
    go_wp2
    go_quiet ((go_at_call 83; exact Calls.quiet_of_same (U.out _)))
    go_wp2
    go_ret
    exact ⟨rfl, _, rfl⟩
  · have hn0 : ((n : Int) == 0) = false := beq_eq_false_iff_ne.2 (by omega)
    have hle : i + n ≤ s.size := by have := nb (by omega); omega
    have E : Hid (charN s i = if (n : Int) = 1 ∧ bt s i < 32 ∧ bt s i ≠ 9 ∧ bt s i ≠ 10 ∧ bt s i ≠ 13 then 0 else if (s.extract i (i + n)).toList = [239, 191, 190] ∨ (s.extract i (i + n)).toList = [239, 191, 191] then 0 else (n : Int)) := by
      show _ = _
      unfold charN
      rw [hn.out, if_neg (by omega), Int.toNat_natCast]
    have hb2 := get_bt (s.extract i (i + n))
    have hx : bt (s.extract i (i + n)) 0 = bt s i := by
      have hl : 0 < (s.extract i (i + n)).size := by rw [ByteArray.size_extract]; omega
      unfold bt
      rw [dif_pos hl, dif_pos hi]
      congr 2
      rw [ByteArray.getElem_extract]
      simp
    clear nb
    go_enter Tryz.func66, Tryz.ntmps66
    go_wp2
    go_quiet ((go_at_call 83; exact Calls.quiet_of_same (U.out _)))
    go_wp2
    go_quiet (fail)
    go_wp2
    all_goals
      go_ret
      refine ⟨ret_i64 ?_, _, rfl⟩
      rw [E.out]
      clear E hb hb2 hx U
      (repeat' split) <;> first | rfl | omega | (exfalso; simp_all; done) | (exfalso; simp_all; omega)

theorem charN_bd (s : ByteArray) (i : Nat) : 0 ≤ charN s i ∧ charN s i ≤ 4 ∧ (0 < charN s i → i + charN s i ≤ s.size) := by
  have h := utfN_bd s i
  unfold charN
  (repeat' split) <;> omega

def plainTo (s : ByteArray) : Nat → Nat → Bool
  | 0, _ => true
  | f + 1, i => if s.size ≤ i then true else if charN s i = 0 then false else plainTo s f (i + (charN s i).toNat)
/-- a text of characters that XML knows -/
def plainB (s : ByteArray) : Bool := plainTo s s.size 0
theorem plainTo_end (s : ByteArray) (f : Nat) : plainTo s f s.size = true := by
  cases f with
  | zero => rfl
  | succ f => unfold plainTo; rw [if_pos (Nat.le_refl _)]

theorem ret_bool {a b : Bool} (h : a = b) : Ending.returned (.bool a) = .returned (.bool b) := by rw [h]

set_option maxHeartbeats 1000000 in
theorem plain_any (s : ByteArray) (w : World) (hs : s.size ≤ 140737488351232) :
    Calls Tryz.prog 48 #[.string s] w fun e w' => e = .returned (.bool (plainB s)) ∧ Below w.heap.size w w' := by
  obtain ⟨res, hres⟩ : ∃ res, Hid (plainB s = res) := ⟨_, rfl⟩
  rw [hres.out]
  go_enter Tryz.func48, Tryz.ntmps48
  go_wp2
  go_loopg [4] s.size (fun gg _ wr => ∃ i : Nat, i ≤ s.size ∧ s.size - i ≤ gg ∧ Hid (wr.heap[w.heap.size]? = some (.cells #[.string s, .int .i64 i, .int .i64 0, .int .i64 0] 113 (0, 0))) ∧ Hid (Below w.heap.size w wr) ∧ Hid (∃ f, s.size - i ≤ f ∧ res = plainTo s f i))
  case atStart => exact ⟨0, Nat.zero_le _, by omega, (show Hid _ from heap_alloc_new _ _), (show Hid _ from below_alloc (Below.refl _ _) (Nat.le_refl _) _), (show Hid _ from ⟨s.size, by omega, hres.out.symm⟩)⟩
  case round =>
    obtain ⟨i, hin, hgg, HH, HB, HF⟩ := hrel
    have q0 : wr.cell? ⟨w.heap.size, 0, none⟩ = some (.string s) := cell_of_heap HH.out
    have q1 : wr.cell? ⟨w.heap.size, 1, none⟩ = some (.int .i64 i) := cell_of_heap HH.out
    have fz : wr.frozen? ⟨w.heap.size, 1, none⟩ = false := free_of_heap HH.out
    by_cases hlt : i < s.size
    · have hltz : (i : Int) < (s.size : Int) := by omega
      have hc := Lib.hid (char_any s i w.heap.size wr hs hlt q0 q1)
      obtain ⟨c1, c2, c3⟩ := charN_bd s i
      obtain ⟨n, hn⟩ : ∃ n : Nat, Hid (charN s i = n) := ⟨(charN s i).toNat, by show _ = _; omega⟩
      rw [hn.out] at hc c1 c2 c3
      go_wp2_with fail
      refine hc.out.mono ?_
      rintro e w' ⟨rfl, k, rfl⟩
      by_cases hz : n = 0
      · have hr : Hid (res = false) := by
          obtain ⟨f, h1, h2⟩ := HF.out
          show _ = _
          rw [h2]
          cases f with
          | zero => omega
          | succ f => unfold plainTo; rw [if_neg (by omega), if_pos (by rw [hn.out]; omega)]
        subst hz
        go_wp2
        go_ret
        rw [hr.out]
        exact ⟨rfl, below_drewN HB.out _⟩
      · have hz' : ((n : Int) == 0) = false := beq_eq_false_iff_ne.2 (by omega)
        have hle : i + n ≤ s.size := by have := c3 (by omega); omega
        clear hc c3
        go_wp2
        go_roundg (s.size - (i + n))
        case measure => omega
        case rel =>
          refine ⟨i + n, hle, Nat.le_refl _, (show Hid _ from ?_), (show Hid _ from (below_drewN HB.out _).setCell (Nat.le_refl _) _), (show Hid _ from ?_)⟩
          · have := heap_set (x := 1) (show (wr.drewN k).heap[w.heap.size]? = _ from HH.out) (.int .i64 (i + n : Nat))
            show _ = _
            simpa using this
          · obtain ⟨f, h1, h2⟩ := HF.out
            cases f with
            | zero => omega
            | succ f =>
              refine ⟨f, by omega, ?_⟩
              rw [h2]
              rw [plainTo, if_neg (by omega), if_neg (by rw [hn.out]; omega), hn.out, Int.toNat_natCast]
    · obtain rfl : i = s.size := by omega
      have hr : Hid (res = true) := by
        obtain ⟨f, _, h2⟩ := HF.out
        show _ = _
        rw [h2, plainTo_end]
      go_wp2
      go_ret
      rw [hr.out]
      exact ⟨rfl, HB.out⟩

/-- may a name begin with a byte, go on with it -/
def firstB (c : Int) : Bool := decide ((65 ≤ c ∧ c ≤ 90) ∨ (97 ≤ c ∧ c ≤ 122) ∨ c = 95)
def moreB (c : Int) : Bool := firstB c || decide ((48 ≤ c ∧ c ≤ 57) ∨ c = 45 ∨ c = 46)

theorem first_any (c : Int) (w : World) (h0 : 0 ≤ c) (h1 : c ≤ 255) :
    Calls Tryz.prog 46 #[.int .u8 c] w fun e w' => e = .returned (.bool (firstB c)) ∧ w = w' := by
  go_enter Tryz.func46, Tryz.ntmps46
  go_wp2
  all_goals
    go_ret
    refine ⟨ret_bool ?_, rfl⟩
    unfold firstB
    first | (symm; simp; omega) | (simp; omega) | (rw [Bool.eq_iff_iff]; simp; omega)

theorem more_any (c : Int) (w : World) (h0 : 0 ≤ c) (h1 : c ≤ 255) :
    Calls Tryz.prog 47 #[.int .u8 c] w fun e w' => e = .returned (.bool (moreB c)) ∧ w = w' := by
  have hf := Lib.hid (first_any c w h0 h1)
  cases hfb : firstB c
  all_goals
    rw [hfb] at hf
    go_enter Tryz.func47, Tryz.ntmps47
    go_wp2_with fail
    refine hf.out.mono ?_
    rintro e w' ⟨rfl, rfl⟩
    go_wp2
    all_goals
      go_ret
      refine ⟨ret_bool ?_, rfl⟩
      unfold moreB
      first | (rw [hfb]; first | rfl | (symm; simp; omega) | (simp; omega) | (rw [Bool.eq_iff_iff]; simp; omega)) | rfl | (simp; done) | decide

end Go.Proofs.YtgmgghbocidibaaGreatDoor

/-
  ELEMENTS (api.Elem) as trees, and how the world holds one.
-/
namespace Go.Proofs.YtgmgghbocidibaaGreatDoor
open Go.RowKit

inductive Tree where
  | node (name text : ByteArray) (kids : List Tree)

def Tree.name : Tree → ByteArray | .node n _ _ => n
def Tree.text : Tree → ByteArray | .node _ t _ => t
def Tree.kids : Tree → List Tree | .node _ _ k => k

/-- the longest that is read: every string, every slice takes at most 2^47 bytes -/
def maxRead : Nat := 140737488351232

mutual
/-- three cells hold the tree -/
def TreeIn (w : World) : Tree → Value → Value → Value → Prop
  | .node n t ks, x, y, z => x = .string n ∧ y = .string t ∧ n.size ≤ maxRead ∧ t.size ≤ maxRead ∧ ks.length ≤ 2513169434843 ∧ ∃ a c, z = .slice a ks.length c ∧ KidsIn w ks a 0
def KidsIn (w : World) : List Tree → Option Addr → Nat → Prop
  | [], _, _ => True
  | k :: ks, a, i => (∃ b off x y z, a = some ⟨b, off, none⟩ ∧ w.cell? ⟨b, off + i * 3, none⟩ = some x ∧ w.cell? ⟨b, off + i * 3 + 1, none⟩ = some y ∧ w.cell? ⟨b, off + i * 3 + 2, none⟩ = some z ∧ TreeIn w k x y z) ∧ KidsIn w ks a (i + 1)
end

mutual
theorem TreeIn.later {w w' : World} (hb : Below w.heap.size w w') : ∀ (t : Tree) (x y z : Value), TreeIn w t x y z → TreeIn w' t x y z
  | .node n t ks, x, y, z, h => by
    unfold TreeIn at *
    obtain ⟨h1, h2, h3, h4, h5, a, c, h6, h7⟩ := h
    exact ⟨h1, h2, h3, h4, h5, a, c, h6, KidsIn.later hb ks a 0 h7⟩
theorem KidsIn.later {w w' : World} (hb : Below w.heap.size w w') : ∀ (ks : List Tree) (a : Option Addr) (i : Nat), KidsIn w ks a i → KidsIn w' ks a i
  | [], _, _, _ => by unfold KidsIn; trivial
  | k :: ks, a, i, h => by
    unfold KidsIn at *
    obtain ⟨⟨b, off, x, y, z, h1, h2, h3, h4, h5⟩, h6⟩ := h
    exact ⟨⟨b, off, x, y, z, h1, cell_later hb h2, cell_later hb h3, cell_later hb h4, TreeIn.later hb k x y z h5⟩, KidsIn.later hb ks a (i + 1) h6⟩
end

theorem KidsIn.get {w : World} {a : Option Addr} : ∀ {ks : List Tree} {i : Nat} (_ : KidsIn w ks a i) (j : Nat) (k : Tree), ks[j]? = some k →
    ∃ b off x y z, a = some ⟨b, off, none⟩ ∧ w.cell? ⟨b, off + (i + j) * 3, none⟩ = some x ∧ w.cell? ⟨b, off + (i + j) * 3 + 1, none⟩ = some y ∧ w.cell? ⟨b, off + (i + j) * 3 + 2, none⟩ = some z ∧ TreeIn w k x y z
  | [], _, _, _, _, h => by cases h
  | x :: ks, i, h, 0, k, hk => by
    simp at hk; subst hk
    unfold KidsIn at h
    exact h.1
  | x :: ks, i, h, j + 1, k, hk => by
    unfold KidsIn at h
    have := KidsIn.get h.2 j k (by simpa using hk)
    rw [show i + (j + 1) = i + 1 + j from by omega]
    exact this

/-- what a tree's three cells are -/
theorem TreeIn.cells {w : World} {t : Tree} {x y z : Value} (h : TreeIn w t x y z) :
    x = .string t.name ∧ y = .string t.text ∧ t.name.size ≤ maxRead ∧ t.text.size ≤ maxRead ∧ t.kids.length ≤ 2513169434843 ∧ ∃ a c, z = .slice a t.kids.length c ∧ KidsIn w t.kids a 0 := by
  cases t with
  | node n t ks => unfold TreeIn at h; exact h

/-- a kid: its cells, as the walk reads them -/
theorem KidsIn.kid {w : World} {a : Option Addr} {ks : List Tree} (h : KidsIn w ks a 0) {j : Nat} {k : Tree} (hk : ks[j]? = some k) :
    ∃ b off a' c', a = some ⟨b, off, none⟩ ∧ w.cell? ⟨b, off + j * 3, none⟩ = some (.string k.name) ∧ w.cell? ⟨b, off + j * 3 + 1, none⟩ = some (.string k.text) ∧ w.cell? ⟨b, off + j * 3 + 2, none⟩ = some (.slice a' k.kids.length c') ∧
      k.name.size ≤ maxRead ∧ k.text.size ≤ maxRead ∧ k.kids.length ≤ 2513169434843 ∧ KidsIn w k.kids a' 0 ∧ TreeIn w k (.string k.name) (.string k.text) (.slice a' k.kids.length c') := by
  obtain ⟨b, off, x, y, z, h1, h2, h3, h4, h5⟩ := h.get j k hk
  rw [Nat.zero_add] at h2 h3 h4
  obtain ⟨rfl, rfl, h6, h7, h8, a', c', rfl, h9⟩ := h5.cells
  exact ⟨b, off, a', c', h1, h2, h3, h4, h6, h7, h8, h9, h5⟩

end Go.Proofs.YtgmgghbocidibaaGreatDoor

/-
  XML, plain: how a text is read (the places of errors as what is left of the text there), how an element is written.
-/
namespace Go.Proofs.YtgmgghbocidibaaGreatDoor

abbrev Bs := List UInt8
def Bs.str (l : Bs) : ByteArray := ⟨l.toArray⟩
/-- what is read, or the error and how much is left at its place -/
abbrev R (α : Type) := Except (Int × Nat) α

def blankB (b : UInt8) : Bool := b = 32 || b = 9 || b = 10 || b = 13
def firstX (b : UInt8) : Bool := (65 ≤ b && b ≤ 90) || (97 ≤ b && b ≤ 122) || b = 95
def moreX (b : UInt8) : Bool := firstX b || (48 ≤ b && b ≤ 57) || b = 45 || b = 46
def skipL (l : Bs) : Bs := l.dropWhile blankB
def wantL : Bs → Bs → R Bs
  | [], r => .ok r
  | _ :: _, [] => .error (55, 0)
  | b :: p, c :: r => if c = b then wantL p r else .error (55, r.length + 1)
def nameX (also : Bool) (b : UInt8) : Bool := moreX b || (also && b = 58)
def nameL (also : Bool) (r : Bs) : R (Bs × Bs) :=
  match r with
  | [] => .error (55, 0)
  | b :: _ => if firstX b then
      (if 100 < (r.takeWhile (nameX also)).length then .error (55, r.length - 100) else .ok (r.takeWhile (nameX also), r.dropWhile (nameX also)))
    else .error (55, r.length)
/-- one attribute, of which the blanks ahead are read -/
def attrL (r : Bs) : R Bs := do
  let (_, r2) ← nameL true r
  let r3 ← wantL [61] r2
  match r3 with
  | [] => .error (55, 0)
  | q :: r4 => if q = 34 ∨ q = 39 then wantL [q] (r4.dropWhile (fun b => b ≠ 60 && b ≠ q)) else .error (55, r3.length)
def attrsL : Nat → Bs → R Bs
  | 0, r => .ok r
  | f + 1, r =>
    let r1 := skipL r
    if r1.head? = some 47 ∨ r1.head? = some 62 then .ok r1
    else if r1.length = r.length then .error (55, r.length)
    else do
      let r2 ← attrL r1
      attrsL f r2
/-- an element's beginning, with so many around it: its name; has it not ended already? -/
def beginL (around : Nat) (r : Bs) : R (Bs × Bool × Bs) :=
  if around = 20 ∧ r.head? = some 60 then .error (57, r.length) else do
  let r1 ← wantL [60] r
  let (n, r2) ← nameL false r1
  let r3 ← attrsL (r2.length + 1) r2
  if r3.head? = some 47 then
    let r5 ← wantL [62] (r3.drop 1)
    return (n, false, r5)
  else return (n, true, r3.drop 1)

/-! ### characters -/
/-- does XML know a character? -/
def knowsX (c : Int) : Bool := c = 9 || c = 10 || c = 13 || (32 ≤ c && c ≤ 55295) || (57344 ≤ c && c ≤ 65533) || (65536 ≤ c && c ≤ 1114111)
/-- a character's bytes -/
def encX (c : Int) : Bs := Lib.encodeRune c
def digX (base : Nat) (b : UInt8) : Bool := (48 ≤ b && b ≤ 57) || (base = 16 && ((97 ≤ b && b ≤ 102) || (65 ≤ b && b ≤ 70)))
def digV (b : UInt8) : Nat := if b ≤ 57 then b.toNat - 48 else if b ≤ 70 then b.toNat - 55 else b.toNat - 87
def numX (base : Nat) (l : Bs) : Nat := l.foldl (fun n b => base * n + digV b) 0

/-! ### what & tells -/
def namesX : List (Bs × Bs) := [([38, 97, 109, 112, 59], [38]), ([38, 108, 116, 59], [60]), ([38, 103, 116, 59], [62]), ([38, 113, 117, 111, 116, 59], [34]), ([38, 97, 112, 111, 115, 59], [39])]
/-- a character by its number: what it is and what follows; or: might it still become one? -/
def numL (head : Bs) (base most : Nat) (r : Bs) : (Bs × Bs) ⊕ Bool :=
  if head.isPrefixOf r then
    let tail := r.drop head.length
    let n := min (tail.takeWhile (digX base)).length most
    if n = tail.length then .inr true
    else if 0 < n ∧ tail[n]? = some 59 ∧ knowsX (numX base (tail.take n)) then .inl (encX (numX base (tail.take n)), tail.drop (n + 1))
    else .inr false
  else .inr (r.isPrefixOf head)
def refL (r : Bs) : R (Bs × Bs) :=
  match namesX.find? (fun x => x.1.isPrefixOf r) with
  | some x => .ok (x.2, r.drop x.1.length)
  | none =>
    let short := namesX.any (fun x => r.isPrefixOf x.1)
    match numL [38, 35] 10 7 r with
    | .inl x => .ok x
    | .inr s1 =>
      match numL [38, 35, 120] 16 6 r with
      | .inl x => .ok x
      | .inr s2 => .error (55, if short || s1 || s2 then 0 else r.length)

/-! ### elements -/
/-- an element that has not ended -/
structure Opn where
  name : Bs
  text : Bs
  solid : Bool
  kids : List Tree
def opn (n : Bs) : Opn := ⟨n, [], false, []⟩
def Opn.elem (o : Opn) : Tree := .node o.name.str (if o.kids = [] then o.text else []).str o.kids
/-- the innermost one ends: it is laid into the one around it -/
def endL : List Opn → List Opn
  | o :: a :: ps => { a with kids := a.kids ++ [o.elem] } :: ps
  | ps => ps
/-- what stands next within the innermost element -/
def stepL (o : Opn) (around : List Opn) (r : Bs) : R (List Opn × Bs) :=
  if r = [] then .error (55, 0)
  else if r.head? = some 60 then
    if r.length = 1 then .error (55, 0)
    else if (r.drop 1).head? = some 47 then do
      let r1 ← wantL o.name (r.drop 2)
      let r2 ← wantL [62] (skipL r1)
      return (endL (o :: around), r2)
    else if o.solid then .error (55, r.length)
    else do
      let (n, more, r1) ← beginL (around.length + 1) r
      return (if more then opn n :: o :: around else endL (opn n :: o :: around), r1)
  else
    let d := Lib.decodeL r
    let solid := !(r.head?.any blankB)
    if o.kids ≠ [] ∧ solid = true then .error (55, r.length)
    else if r.head? = some 38 then do
      let (t, r1) ← refL r
      return ({ o with solid := true, text := o.text ++ t } :: around, r1)
    else if (d.1 = 65533 ∧ d.2 = 1) ∨ knowsX d.1 = false then .error (55, r.length)
    else .ok ({ o with solid := o.solid || solid, text := o.text ++ encX d.1 } :: around, r.drop d.2)
/-- up to the outermost element's end -/
def runL : Nat → List Opn → Bs → R (Tree × Bs)
  | f + 1, o :: around, r => do
    let (ps, r1) ← stepL o around r
    if around = [] ∧ [60, 47].isPrefixOf r then return (match ps with | o :: _ => o.elem | [] => o.elem, r1)
    else runL f ps r1
  | _, _, r => .error (55, r.length)
def elementL (r : Bs) : R (Tree × Bs) := do
  let (n, more, r1) ← beginL 0 r
  if more then runL (r1.length + 1) [opn n] r1 else return ((opn n).elem, r1)
def headL (r : Bs) : R Bs :=
  let r0 := skipL r
  if [60, 63].isPrefixOf r0 then do
    let r1 ← wantL [60, 63, 120, 109, 108] r0
    let r2 ← wantL [63, 62] (r1.dropWhile (fun b => b ≠ 63))
    return skipL r2
  else .ok r0
def textL (s : Bs) : R Tree := do
  let r1 ← headL s
  let (e, r2) ← elementL r1
  let r3 := skipL r2
  if r3 = [] then return e else .error (55, r3.length)
/-- what a text is read as, or the error and its place -/
def parseL (s : Bs) : Except (Int × Int) Tree :=
  if 8000 < s.length then .error (56, 0)
  else match textL s with
    | .ok e => .ok e
    | .error (c, k) => .error (c, (s.length : Int) - k)

/-! ### what is written -/
def escB (b : UInt8) : Bs := if b = 38 then [38, 97, 109, 112, 59] else if b = 60 then [38, 108, 116, 59] else if b = 62 then [38, 103, 116, 59] else if b = 34 then [38, 113, 117, 111, 116, 59] else if b = 13 then [38, 35, 49, 51, 59] else [b]
def escL (l : Bs) : Bs := l.flatMap escB
mutual
def writeL : Tree → Bs
  | .node n t ks => if t.data.toList = [] ∧ ks = [] then 60 :: n.data.toList ++ [47, 62] else 60 :: n.data.toList ++ 62 :: escL t.data.toList ++ writeKids ks ++ 60 :: 47 :: n.data.toList ++ [62]
def writeKids : List Tree → Bs
  | [] => []
  | k :: ks => writeL k ++ writeKids ks
end
def headX : Bs := "<?xml version=\"1.0\" encoding=\"UTF-8\"?>\n".toUTF8.data.toList
end Go.Proofs.YtgmgghbocidibaaGreatDoor
