/-
  SEVERAL SMALL TEXTS IN ONE.
-/
import Derived.Test.YtdilmefeofdkmaaGreatDoorRows
import Derived.WalkKit
import Derived.WalkSpells
import Derived.WalkLawsBesides
import Derived.Deep.QuietTactic
import Derived.BigQuiet
import Derived.Lib.Hide
import Derived.Lib.ItoaMem
/-
  WHAT ALL WALKS OF THIS SEAT SHARE: slices of rows of cells, read; what a call leaves.
-/
namespace Go.Proofs.YtdilmefeofdkmaaGreatDoor
open Go.RowKit

/-- v is a slice of rows of sz cells each, and the world holds them. -/
def SlAt (w : World) (sz : Nat) (v : Value) (rows : List (List Value)) : Prop :=
  ∃ a c, v = .slice a rows.length c ∧ rows.length ≤ 140737488351232 ∧ ∀ i r, rows[i]? = some r → ∃ b off, a = some ⟨b, off, none⟩ ∧ ∀ j u, r[j]? = some u → w.cell? ⟨b, off + i * sz + j, none⟩ = some u

theorem cell_new (w : World) (c : Array Value) (t : TypeId) (n j : Nat) (v : Value) (h : n = w.heap.size) (hv : c[j]? = some v) : (w.alloc (.cells c t)).cell? ⟨n, j, none⟩ = some v := by
  subst h; simp [hv]
theorem cell_past {w : World} (o : Obj) {a : Addr} {v : Value} (h : w.cell? a = some v) : (w.alloc o).cell? a = some v := by
  have hlt := World.block_lt_of_cell? w a h
  rw [World.cell?_alloc_lt _ _ _ hlt]; exact h
theorem free_past {w : World} (o : Obj) {a : Addr} (hlt : a.block < w.heap.size) (h : w.frozen? a = false) : (w.alloc o).frozen? a = false := by
  rw [World.frozen?_of_block (w := w) (Below.heap_alloc w o a.block hlt)]; exact h
theorem below_alloc {B : Nat} {a w : World} (h : Below B a w) (hB : B ≤ a.heap.size) (o : Obj) : Below B a (w.alloc o) := h.alloc (Nat.le_trans hB h.size) o

theorem cell_of_heap {w : World} {g x : Nat} {cur : Array Value} {t : TypeId} (h : w.heap[g]? = some (.cells cur t (0, 0))) : w.cell? ⟨g, x, none⟩ = cur[x]? := by
  simp [World.cell?, h]
theorem free_of_heap {w : World} {g x : Nat} {cur : Array Value} {t : TypeId} (h : w.heap[g]? = some (.cells cur t (0, 0))) : w.frozen? ⟨g, x, none⟩ = false := by
  simp [World.frozen?, h]
theorem heap_set {w : World} {g x : Nat} {cur : Array Value} {t : TypeId} (h : w.heap[g]? = some (.cells cur t (0, 0))) (v : Value) : (w.setCell ⟨g, x, none⟩ v).heap[g]? = some (.cells (cur.setIfInBounds x v) t (0, 0)) := by
  simp [World.setCell, Array.getElem?_modify, h]

theorem cells_new (w : World) (c : Array Value) (t : TypeId) (j : Nat) (u : Value) (h : c.toList[j]? = some u) : (w.alloc (.cells c t)).cell? ((⟨w.heap.size, 0, none⟩ : Addr).add j) = some u := by
  rw [Addr.add_lit]
  exact cell_new _ _ _ _ _ _ rfl (by simpa using h)

theorem results_cell_tmp {P : Program} {fn : Func} {p q : Tmp} {ty : TypeId} (h : fn.results = #[.cell p ty, .tmp q]) (tmps : Array Value) (w : World) (g : Nat) (t : TypeId) (cs : Array Value) (d : TypeDesc)
    (hp : tmps.getD p undef = .pointer (some ⟨g, 0, none⟩)) (hg : w.heap[g]? = some (.cells cs t (0, 0)))
    (hu : P.underlying ty = some d) (hd : (match d with | .struct _ | .array _ _ => true | _ => false) = true) (hi : (P.info? ty).map (·.size) = some cs.size) :
    (results fn tmps).run P w = .ok (.tuple #[.agg cs, tmps.getD q undef]) w := by
  have hp' : tmps[p]?.getD undef = .pointer (some ⟨g, 0, none⟩) := by simpa using hp
  simp [results, h, hp', asAddr, run_loadVar_row w g t ty cs (0, 0) d hg hu hd hi]

theorem setRow_alloc (w : World) (old new : Array Value) (t : TypeId) (g : Nat) (h : g = w.heap.size) : (w.alloc (.cells old t)).setRow g new = w.alloc (.cells new t) := by
  subst h
  unfold World.setRow World.alloc
  congr 1
  apply Array.ext_getElem?
  intro i
  rw [Array.getElem?_modify, Array.getElem?_push, Array.getElem?_push]
  by_cases h : w.heap.size = i
  · subst h; simp
  · rw [if_neg h, if_neg (by omega), if_neg (by omega)]

theorem heap_at (w : World) (o : Obj) {g : Nat} (h : g = w.heap.size) : (w.alloc o).heap[g]? = some o := by subst h; exact heap_alloc_new w o

theorem heap_at1 (w : World) (o1 o2 : Obj) : ((w.alloc o1).alloc o2).heap[w.heap.size + 1]? = some o2 := heap_at _ _ (by simp)
theorem setRow_alloc1 (w : World) (o : Obj) (old new : Array Value) (t : TypeId) : ((w.alloc o).alloc (.cells old t)).setRow (w.heap.size + 1) new = (w.alloc o).alloc (.cells new t) := setRow_alloc _ _ _ _ _ (by simp)

theorem below_two_row (B : Nat) (a w : World) (o1 o2 : Obj) (g : Nat) (new : Array Value) (h : Below B a w) (hg : B ≤ g) (hB : B ≤ a.heap.size) : Below B a (((w.alloc o1).alloc o2).setRow g new) := by
  refine (below_alloc (below_alloc h hB _) hB _).trans ⟨rfl, rfl, rfl, by simp, fun k hk => setRow_other _ _ _ _ (by omega)⟩

theorem below_cell_row (B : Nat) (a w : World) (p : Addr) (u : Value) (g : Nat) (new : Array Value) (h : Below B a w) (hp : B ≤ p.block) (hg : B ≤ g) : Below B a ((w.setCell p u).setRow g new) :=
  (h.setCell hp u).trans ⟨rfl, rfl, rfl, by simp, fun _ hk => setRow_other _ _ _ _ (by omega)⟩
theorem below_cell2_row (B : Nat) (a w : World) (p q : Addr) (u v : Value) (g : Nat) (new : Array Value) (h : Below B a w) (hp : B ≤ p.block) (hq : B ≤ q.block) (hg : B ≤ g) : Below B a (((w.setCell p u).setCell q v).setRow g new) :=
  ((h.setCell hp u).setCell hq v).trans ⟨rfl, rfl, rfl, by simp, fun _ hk => setRow_other _ _ _ _ (by omega)⟩

theorem find_first {α : Type} {p : α → Bool} : ∀ (l : List α) (i : Nat) (u : α), l[i]? = some u → p u = true → (∀ (j : Nat) (x : α), j < i → l[j]? = some x → p x = false) → l.find? p = some u
  | [], _, _, h, _, _ => by cases h
  | x :: l, 0, u, h, hp, _ => by simp at h; subst h; simp [hp]
  | x :: l, i + 1, u, h, hp, hb => by
    have hx := hb 0 x (by omega) rfl
    simp only [List.find?_cons, hx]
    exact find_first l i u (by simpa using h) hp (fun j y hj hy => hb (j + 1) y (by omega) (by simpa using hy))
theorem find_none {α : Type} {p : α → Bool} (l : List α) (hb : ∀ (j : Nat) (x : α), l[j]? = some x → p x = false) : l.find? p = none := by
  rw [List.find?_eq_none]
  intro x hx
  obtain ⟨j, hj⟩ := List.getElem?_of_mem hx
  simp [hb j x hj]
theorem below_one_row (B : Nat) (a w : World) (g : Nat) (new : Array Value) (h : Below B a w) (hg : B ≤ g) : Below B a (w.setRow g new) :=
  h.trans ⟨rfl, rfl, rfl, by simp, fun _ hk => setRow_other _ _ _ _ (by omega)⟩

/-- a number fits an int -/
def IntOK (n : Int) : Prop := -9223372036854775808 ≤ n ∧ n ≤ 9223372036854775807

end Go.Proofs.YtdilmefeofdkmaaGreatDoor

/-
  What the listed package-level variables hold, as far as the walks want it; kept.
-/
namespace Go.Proofs.YtdilmefeofdkmaaGreatDoor
open Go.RowKit

/-- what the listed variables hold, as far as the walks want it -/
structure Glob (w : World) : Prop where
  size : 6 ≤ w.heap.size
  tz : w.cell? ⟨5, 15, none⟩ = some (.int .u8 4)
  pow : Lib.TabIs Tryz.prog w "internal/strconv.uint64pow10" .u64 Lib.pow10Tab
  esyn : ∃ te pe, w.cell? ⟨6, 0, none⟩ = some (.iface te pe)
  eran : ∃ te pe, w.cell? ⟨7, 0, none⟩ = some (.iface te pe)

theorem Glob.later {w w' : World} (h : Glob w) (hb : Below w.heap.size w w') : Glob w' :=
  ⟨Nat.le_trans h.size hb.size, cell_later hb h.tz, var?_below (g := 0) hb (by kernel_rfl) (by have := h.size; omega) h.pow,
    by obtain ⟨a, b, c⟩ := h.esyn; exact ⟨a, b, cell_later hb c⟩, by obtain ⟨a, b, c⟩ := h.eran; exact ⟨a, b, cell_later hb c⟩⟩

end Go.Proofs.YtdilmefeofdkmaaGreatDoor

/-
  What a call leaves: but for some blocks, and new ones, the world is as it was.
-/
namespace Go.Proofs.YtdilmefeofdkmaaGreatDoor
open Go.RowKit

/-- but for the blocks M, and new ones, the world is as it was -/
structure Chg (w w' : World) (M : Nat → Prop) : Prop where
  os : w'.os = w.os
  tape : w'.tape = w.tape
  output : w'.output = w.output
  size : w.heap.size ≤ w'.heap.size
  block : ∀ k, k < w.heap.size → ¬ M k → w'.heap[k]? = w.heap[k]?

theorem Chg.refl (w : World) (M : Nat → Prop) : Chg w w M := ⟨rfl, rfl, rfl, Nat.le_refl _, fun _ _ _ => rfl⟩
theorem Chg.trans {a b c : World} {M : Nat → Prop} (h : Chg a b M) (k : Chg b c M) : Chg a c M :=
  ⟨k.os.trans h.os, k.tape.trans h.tape, k.output.trans h.output, Nat.le_trans h.size k.size, fun i hi hm => (k.block i (Nat.lt_of_lt_of_le hi h.size) hm).trans (h.block i hi hm)⟩
theorem Chg.mono {w w' : World} {M N : Nat → Prop} (h : Chg w w' M) (hm : ∀ k, k < w.heap.size → M k → N k) : Chg w w' N := ⟨h.os, h.tape, h.output, h.size, fun k hk hn => h.block k hk (fun x => hn (hm k hk x))⟩
theorem Chg.of_below {w w' : World} {M : Nat → Prop} (h : Below w.heap.size w w') : Chg w w' M := ⟨h.os, h.tape, h.output, h.size, fun k hk _ => h.block k hk⟩
theorem Chg.below {B : Nat} {w w' : World} {M : Nat → Prop} (h : Chg w w' M) (hB : B ≤ w.heap.size) (hm : ∀ k, M k → B ≤ k) : Below B w w' := ⟨h.os, h.tape, h.output, h.size, fun k hk => h.block k (by omega) (fun x => by have := hm k x; omega)⟩
theorem Chg.grown {w w' : World} {row : Option Nat} (h : w.grownBy w' row) : Chg w w' (fun b => some b = row) := ⟨h.os, h.tape, h.output, h.size, h.block⟩
theorem Chg.set (w : World) (a : Addr) (v : Value) : Chg w (w.setCell a v) (fun b => b = a.block) := ⟨rfl, rfl, rfl, by simp [World.setCell], fun k _ hk => Below.heap_setCell _ _ _ _ hk⟩

end Go.Proofs.YtdilmefeofdkmaaGreatDoor

/-
  WIRE: what a Reader does, in plain Lean.
-/
namespace Go.Proofs.YtdilmefeofdkmaaGreatDoor

inductive Mode | first | field | bytes | size | chunk | chunkEnd | last
deriving DecidableEq

/-- a request -/
structure ReqV where
  meth : List UInt8
  target : List UInt8
  minor : Int
  fields : List (List UInt8 × List UInt8)
  body : List UInt8
  close : Bool
deriving DecidableEq
def reqZ : ReqV := ⟨[], [], 0, [], [], false⟩

/-- a Reader -/
structure RS where
  mode : Mode
  fault : Int
  done : Bool
  line : List UInt8
  head : Int
  blanks : Int
  tgt : Int
  meth : List UInt8
  target : List UInt8
  minor : Int
  fields : List (List UInt8 × List UInt8)
  body : List UInt8
  left : Int
deriving DecidableEq

def rsZ : RS := ⟨.first, 0, false, [], 0, 0, 0, [], [], 0, [], [], 0⟩
def RS.begin (s : RS) : RS := ⟨.first, s.fault, s.done, [], 0, 0, 0, [], [], 0, [], [], 0⟩
def RS.fail (s : RS) (e : Int) : RS := { s with fault := e, done := true }

/-- a line without its end -/
def trimCR (l : List UInt8) : List UInt8 := if l.getLast? = some 13 then l.dropLast else l
def capB (b : UInt8) : Bool := 65 ≤ b && b ≤ 90
def seenB (b : UInt8) : Bool := 32 < b && b ≤ 126
def digB (b : UInt8) : Bool := 48 ≤ b && b ≤ 57
def lowB (b : UInt8) : Bool := 97 ≤ (b ||| 32) && (b ||| 32) ≤ 122
def nameB (b : UInt8) : Bool := lowB b || digB b || b == 45 || b == 95
def shownB (b : UInt8) : Bool := (32 ≤ b && b != 127) || b == 9
def hexB (b : UInt8) : Bool := digB b || (97 ≤ (b ||| 32) && (b ||| 32) ≤ 102)
def allB (l : List UInt8) (p : UInt8 → Bool) : Bool := !l.isEmpty && l.all p
/-- what stands ahead of the first byte of a kind, and behind it -/
def cutAt (c : UInt8) : List UInt8 → List UInt8 × List UInt8 × Bool
  | [] => ([], [], false)
  | b :: l => if b = c then ([], l, true) else let r := cutAt c l; (b :: r.1, r.2.1, r.2.2)
def smallB (b : UInt8) : UInt8 := if 65 ≤ b && b ≤ 90 then b + 32 else b
def smallL (l : List UInt8) : List UInt8 := l.map smallB
def http : List UInt8 := [72, 84, 84, 80, 47]
def formL (v : List UInt8) : Bool := v.length == 8 && v.take 5 == http && digB (v.getD 5 0) && v.getD 6 0 == 46 && digB (v.getD 7 0)
def methods : List (List UInt8) := [[71, 69, 84], [72, 69, 65, 68], [80, 85, 84], [80, 79, 83, 84], [68, 69, 76, 69, 84, 69]]
def http10 : List UInt8 := [72, 84, 84, 80, 47, 49, 46, 48]
def http11 : List UInt8 := [72, 84, 84, 80, 47, 49, 46, 49]

/-- a first line that has ended -/
def RS.request (s : RS) (line : List UInt8) : RS :=
  let c := cutAt 32 line
  let d := cutAt 32 c.2.1
  let s := if !d.2.2 || !allB c.1 capB || !allB d.1 seenB || !formL d.2.1 then s.fail 60
    else if !methods.contains c.1 then s.fail 68
    else if d.2.1 != http10 && d.2.1 != http11 then s.fail 70
    else s
  { s with meth := c.1, target := d.1, minor := if d.2.1 == http11 then 1 else s.minor }

/-- a byte of a head is counted -/
def RS.counts (s : RS) : RS := if 8000 < s.head + 1 then { s with head := s.head + 1 }.fail 67 else { s with head := s.head + 1 }
def RS.put (s : RS) (b : UInt8) : RS := { s with line := s.line ++ [b] }

/-- a byte of a first line -/
def RS.first (s : RS) (b : UInt8) : RS :=
  let t := s.counts
  if 8000 < s.head + 1 then t
  else if b = 10 then
    let line := trimCR t.line
    let u := { t with line := [] }
    if line = [] then u.begin else { u.request line with mode := .field }
  else if b = 32 then { t with blanks := t.blanks + 1 }.put b
  else if t.blanks = 1 then
    if 2000 < t.tgt + 1 then { t with tgt := t.tgt + 1 }.fail 66 else { t with tgt := t.tgt + 1 }.put b
  else t.put b

/-- blanks and tabs at both ends are none of it -/
def blankB (b : UInt8) : Bool := b == 32 || b == 9
def trimL (l : List UInt8) : List UInt8 := ((l.reverse.dropWhile blankB).reverse).dropWhile blankB
def valuesL (name : List UInt8) (fs : List (List UInt8 × List UInt8)) : List (List UInt8) := (fs.filter fun f => f.1 == name).map (·.2)
def hostL : List UInt8 := [104, 111, 115, 116]
def codingL : List UInt8 := [116, 114, 97, 110, 115, 102, 101, 114, 45, 101, 110, 99, 111, 100, 105, 110, 103]
def longL : List UInt8 := [99, 111, 110, 116, 101, 110, 116, 45, 108, 101, 110, 103, 116, 104]
def connL : List UInt8 := [99, 111, 110, 110, 101, 99, 116, 105, 111, 110]
def chunkedL : List UInt8 := [99, 104, 117, 110, 107, 101, 100]
def closeL : List UInt8 := [99, 108, 111, 115, 101]
def aliveL : List UInt8 := [107, 101, 101, 112, 45, 97, 108, 105, 118, 101]
def decL (l : List UInt8) : Int := l.foldl (fun n b => 10 * n + ((b.toNat : Int) - 48)) 0
def hexD (b : UInt8) : Int := if digB b then (b.toNat : Int) - 48 else ((b ||| 32).toNat : Int) - 87
def hexL (l : List UInt8) : Int := l.foldl (fun n b => 16 * n + hexD b) 0

/-- a request is complete -/
def RS.closes (s : RS) : Bool :=
  let l := valuesL connL s.fields
  if s.minor = 1 then l.any fun v => smallL v == closeL else !(l.any fun v => smallL v == aliveL)
def RS.req (s : RS) : ReqV := ⟨s.meth, s.target, s.minor, s.fields, s.body, s.closes⟩
def RS.complete (s : RS) : RS × List ReqV := ({ s.begin with done := s.closes }, [s.req])

/-- a head that has ended -/
def RS.ends (s : RS) : RS × List ReqV :=
  let hosts := valuesL hostL s.fields
  let coding := valuesL codingL s.fields
  let long := valuesL longL s.fields
  let fits := match long with
    | [] => true
    | [x] => decide (x.length ≤ 10) && allB x digB && coding.isEmpty
    | _ => false
  let n := match long with
    | [x] => decL x
    | _ => 0
  if 1 < hosts.length || (hosts.isEmpty && s.minor == 1) then (s.fail 64, [])
  else if 1 < coding.length || (coding.length == 1 && (s.minor == 0 || smallL (coding.headD []) != chunkedL)) then (s.fail 69, [])
  else if !fits then (s.fail 62, [])
  else if 8000 < n then (s.fail 65, [])
  else if coding.length == 1 then ({ s with left := -1, mode := .size }, [])
  else if n = 0 then s.complete
  else ({ s with left := n, mode := .bytes }, [])

/-- a byte of the fields -/
def RS.field (s : RS) (b : UInt8) : RS × List ReqV :=
  let t := s.counts
  if 8000 < s.head + 1 then (t, [])
  else if b ≠ 10 then (t.put b, [])
  else
    let line := trimCR t.line
    let u := { t with line := [] }
    let c := cutAt 58 line
    if line = [] then u.ends
    else if u.fields.length = 50 then (u.fail 67, [])
    else if !c.2.2 || !allB c.1 nameB || (!c.2.1.isEmpty && !allB c.2.1 shownB) then (u.fail 61, [])
    else ({ u with fields := u.fields ++ [(smallL c.1, trimL c.2.1)] }, [])

/-- a byte of a body -/
def RS.bytes (s : RS) (b : UInt8) : RS × List ReqV :=
  let t := { s with body := s.body ++ [b], left := s.left - 1 }
  if t.left = 0 then t.complete else (t, [])

/-- a byte of a line among chunks: the line, if it ends -/
def RS.chunkLine (s : RS) (b : UInt8) : RS × Option (List UInt8) :=
  if b = 10 then ({ s with line := [] }, some (trimCR s.line))
  else if 200 < s.line.length + 1 then ((s.put b).fail 63, none) else (s.put b, none)

/-- a byte of a chunk's line -/
def RS.size (s : RS) (b : UInt8) : RS :=
  match s.chunkLine b with
  | (t, none) => t
  | (t, some line) =>
    let c := cutAt 59 line
    if !allB c.1 hexB || 4 < c.1.length || (!c.2.1.isEmpty && !allB c.2.1 shownB) then t.fail 63
    else if 8000 - t.body.length < hexL c.1 then t.fail 65
    else if hexL c.1 = 0 then { t with mode := .last }
    else { t with left := hexL c.1, mode := .chunk }

def RS.chunk (s : RS) (b : UInt8) : RS :=
  let t := { s with body := s.body ++ [b], left := s.left - 1 }
  if t.left = 0 then { t with left := -1, mode := .chunkEnd } else t
def RS.chunkEnd (s : RS) (b : UInt8) : RS :=
  if b = 10 then { s with line := [], mode := .size }
  else if b = 13 && s.line.isEmpty then s.put b
  else s.fail 63
def RS.last (s : RS) (b : UInt8) : RS × List ReqV :=
  match s.chunkLine b with
  | (t, none) => (t, [])
  | (t, some line) => if line ≠ [] then (t.fail 63, []) else t.complete

/-- a byte -/
def RS.step (s : RS) (b : UInt8) : RS × List ReqV :=
  match s.mode with
  | .first => (s.first b, [])
  | .field => s.field b
  | .bytes => s.bytes b
  | .size => (s.size b, [])
  | .chunk => (s.chunk b, [])
  | .chunkEnd => (s.chunkEnd b, [])
  | .last => s.last b
/-- a piece -/
def RS.feed : RS → List UInt8 → RS × List ReqV
  | s, [] => (s, [])
  | s, b :: l => if s.done then (s, []) else
    let r := s.step b
    let q := r.1.feed l
    (q.1, r.2 ++ q.2)
def RS.held (s : RS) : Int :=
  if s.done then 0 else s.head + s.body.length + (if s.meth ≠ [] ∧ s.left < 0 then s.line.length else 0)

theorem feed_done {s : RS} (h : s.done = true) : ∀ l, s.feed l = (s, [])
  | [] => rfl
  | b :: l => by simp [RS.feed, h]
theorem feed_append : ∀ (a b : List UInt8) (s : RS), s.feed (a ++ b) = (((s.feed a).1.feed b).1, (s.feed a).2 ++ ((s.feed a).1.feed b).2)
  | [], b, s => by simp [RS.feed]
  | x :: a, b, s => by
    by_cases h : s.done = true
    · rw [feed_done h, feed_done h]; simp [feed_done h]
    · simp only [List.cons_append, RS.feed, h]
      rw [feed_append a b]
      simp
end Go.Proofs.YtdilmefeofdkmaaGreatDoor
