/-
  WIRE: how a Reader lies in memory; what a method leaves.
-/
import Derived.Test.YtdilmefeofdkmaaGreatDoorSm0
import Derived.Deep.AppendLies
import Derived.Lib.AppendStr
namespace Go.Proofs.YtdilmefeofdkmaaGreatDoor
open Go.RowKit

def pairCells (fs : List (List UInt8 × List UInt8)) : List Value := fs.flatMap fun f => [.string ⟨f.1.toArray⟩, .string ⟨f.2.toArray⟩]
theorem pairCells_len (fs : List (List UInt8 × List UInt8)) : (pairCells fs).length = fs.length * 2 := by
  induction fs with
  | nil => rfl
  | cons f fs ih => simp only [pairCells, List.flatMap_cons, List.length_append, List.length_cons, List.length_nil] at *; omega
theorem pairCells_snoc (fs : List (List UInt8 × List UInt8)) (n v : List UInt8) : pairCells (fs ++ [(n, v)]) = pairCells fs ++ [.string ⟨n.toArray⟩, .string ⟨v.toArray⟩] := by simp [pairCells]
theorem byteCells_snoc (l : List UInt8) (b : UInt8) : Lib.byteCells (l ++ [b]) = Lib.byteCells l ++ [.int .u8 b.toNat] := by simp [Lib.byteCells]

/-- a row of its own, kept -/
theorem row_kept {w w' : World} {e : TypeId} {sz : Nat} {v : Value} {n : Nat} {xs : List Value} (h : w.ownsRow 0 e sz v n xs) (hk : ∀ g, v.ownBlock = some g → g < w.heap.size → w'.heap[g]? = w.heap[g]?) : w'.ownsRow 0 e sz v n xs := by
  refine ⟨h.1, ?_⟩
  rcases h.2 with h1 | ⟨g, cap, cur, hv, hg, hh, r⟩
  · exact .inl h1
  · exact .inr ⟨g, cap, cur, hv, hg, by rw [hk g (by rw [hv]; rfl) (Array.getElem?_eq_some_iff.1 hh).1]; exact hh, r⟩
theorem row_form {w : World} {e : TypeId} {sz : Nat} {v : Value} {n : Nat} {xs : List Value} (h : w.ownsRow 0 e sz v n xs) : ∃ a c, v = .slice a n c := by
  rcases h.2 with ⟨rfl, rfl⟩ | ⟨g, cap, cur, hv, _⟩
  · exact ⟨_, _, rfl⟩
  · exact ⟨_, _, hv⟩

/-- requests' cells, one behind the other; the blocks of their fields meet ok -/
def ReqRows (w : World) (ok : Nat → Prop) : List ReqV → List Value → Prop
  | [], xs => xs = []
  | q :: qs, xs => ∃ v r, xs = .string ⟨q.meth.toArray⟩ :: .string ⟨q.target.toArray⟩ :: .int .i64 q.minor :: v :: .string ⟨q.body.toArray⟩ :: .bool q.close :: r ∧
      w.ownsRow 0 58 2 v q.fields.length (pairCells q.fields) ∧ (∀ b, v.ownBlock = some b → ok b) ∧ ReqRows w ok qs r
theorem ReqRows.kept {w w' : World} {ok ok' : Nat → Prop} (hb : ∀ b, b < w.heap.size → ok b → w'.heap[b]? = w.heap[b]?) (ho : ∀ b, b < w.heap.size → ok b → ok' b) : ∀ {qs : List ReqV} {xs : List Value}, ReqRows w ok qs xs → ReqRows w' ok' qs xs
  | [], _, h => h
  | _ :: _, _, ⟨v, r, h1, h2, h3, h4⟩ => ⟨v, r, h1, row_kept h2 fun g hg hl => hb g hl (h3 g hg), fun b hb' => ho b (h2.lt b hb').2 (h3 b hb'), ReqRows.kept hb ho h4⟩
theorem ReqRows.append {w : World} {ok : Nat → Prop} : ∀ {qs qs2 : List ReqV} {xs ys : List Value}, ReqRows w ok qs xs → ReqRows w ok qs2 ys → ReqRows w ok (qs ++ qs2) (xs ++ ys)
  | [], _, _, _, h, h2 => by subst h; exact h2
  | _ :: _, _, _, _, ⟨v, r, h1, h2, h3, h4⟩, k => ⟨v, r ++ _, by rw [h1]; rfl, h2, h3, ReqRows.append h4 k⟩
theorem ReqRows.length {w : World} {ok : Nat → Prop} : ∀ {qs : List ReqV} {xs : List Value}, ReqRows w ok qs xs → xs.length = qs.length * 6
  | [], _, h => by subst h; rfl
  | _ :: _, _, ⟨v, r, h1, h2, h3, h4⟩ => by rw [h1]; simp only [List.length_cons, ReqRows.length h4]; omega

/-- the next byte's taker -/
def nextV (rd : Nat) : Mode → Value
  | .first => .func (.func 54) #[.pointer (some ⟨rd, 0, none⟩)] #[]
  | .field => .func (.func 78) #[.pointer (some ⟨rd, 0, none⟩)] #[]
  | .bytes => .func (.func 116) #[.pointer (some ⟨rd, 0, none⟩)] #[]
  | .size => .func (.func 114) #[.pointer (some ⟨rd, 0, none⟩)] #[]
  | .chunk => .func (.func 134) #[.pointer (some ⟨rd, 0, none⟩)] #[]
  | .chunkEnd => .func (.func 148) #[.pointer (some ⟨rd, 0, none⟩)] #[]
  | .last => .func (.func 133) #[.pointer (some ⟨rd, 0, none⟩)] #[]
/-- a Reader's cells -/
def RS.cells (s : RS) (rd : Nat) (vo vl vf vb : Value) : Array Value :=
  #[nextV rd s.mode, .int .i64 s.fault, .bool s.done, vo, vl, .int .i64 s.head, .int .i64 s.blanks, .int .i64 s.tgt, .string ⟨s.meth.toArray⟩, .string ⟨s.target.toArray⟩, .int .i64 s.minor, vf, .string ⟨#[]⟩, .bool false, vb, .int .i64 s.left]

/-- no block of both -/
abbrev Dj (v u : Value) : Prop := ∀ b, v.ownBlock = some b → u.ownBlock ≠ some b
theorem Dj.symm {v u : Value} (h : Dj v u) : Dj u v := fun b h1 h2 => h b h2 h1
theorem Dj.nil (u : Value) : Dj (.slice none 0 0) u := fun b h => by cases h

/-- a Reader's own blocks; q: what was its own once, and all that is new -/
structure Own where
  p : Nat → Prop
  q : Nat → Prop
instance : CoeFun Own (fun _ => Nat → Prop) := ⟨Own.p⟩
instance : Coe Own (Nat → Prop) := ⟨Own.p⟩
abbrev Own.to (o : Own) (p : Nat → Prop) : Own := ⟨p, o.q⟩

/-- of a Reader at rd what begin wants: the box, what is told and not yet fetched; ms: the blocks that its methods write -/
structure RdrO (w : World) (rd : Nat) (ms : Own) (s : RS) (out : List ReqV) (vo vl vf vb : Value) : Prop where
  glob : Glob w
  box : w.heap[rd]? = some (.cells (s.cells rd vo vl vf vb) 67 (0, 0))
  outs : ∃ xs ok, w.ownsRow 0 31 6 vo out.length xs ∧ ReqRows w ok out xs ∧ ∀ b, ok b → ¬ ms b ∧ ms.q b
  rdM : ms rd
  oO : ∀ b, vo.ownBlock = some b → ms b ∧ b ≠ rd
  low : ∀ b, ms b → 8 ≤ b ∧ b < w.heap.size
  own : (∀ b, ms b → ms.q b) ∧ ∀ b, w.heap.size ≤ b → ms.q b
/-- a Reader at rd: its slices -/
structure RdrIn (w : World) (rd : Nat) (ms : Own) (s : RS) (out : List ReqV) (vo vl vf vb : Value) : Prop extends RdrO w rd ms s out vo vl vf vb where
  line : w.ownsRow 0 5 1 vl s.line.length (Lib.byteCells s.line)
  body : w.ownsRow 0 5 1 vb s.body.length (Lib.byteCells s.body)
  flds : w.ownsRow 0 58 2 vf s.fields.length (pairCells s.fields)
  oL : ∀ b, vl.ownBlock = some b → ms b ∧ b ≠ rd
  oB : ∀ b, vb.ownBlock = some b → ms b ∧ b ≠ rd
  oF : ∀ b, vf.ownBlock = some b → ms b ∧ b ≠ rd
  lb : Dj vl vb
  lf : Dj vl vf
  lo : Dj vl vo
  bf : Dj vb vf
  bo : Dj vb vo
  fo : Dj vf vo
def RdrAt (w : World) (rd : Nat) (ms : Own) (s : RS) (out : List ReqV) : Prop := ∃ vo vl vf vb, RdrIn w rd ms s out vo vl vf vb

/-- the blocks ms were written, and new ones -/
structure Mv (w w' : World) (ms ms' : Own) : Prop where
  chg : Chg w w' ms
  new : ∀ b, ms' b → ms b ∨ w.heap.size ≤ b
  q : ms'.q = ms.q
theorem Mv.refl (w : World) (ms : Own) : Mv w w ms ms := ⟨Chg.refl _ _, fun _ h => .inl h, rfl⟩
theorem Mv.trans {a b c : World} {m1 m2 m3 : Own} (h : Mv a b m1 m2) (k : Mv b c m2 m3) : Mv a c m1 m3 := by
  refine ⟨⟨k.chg.os.trans h.chg.os, k.chg.tape.trans h.chg.tape, k.chg.output.trans h.chg.output, Nat.le_trans h.chg.size k.chg.size, fun i hi hm => ?_⟩, fun x hx => ?_, k.q.trans h.q⟩
  · refine (k.chg.block i (Nat.lt_of_lt_of_le hi h.chg.size) fun h2 => ?_).trans (h.chg.block i hi hm)
    rcases h.new i h2 with h3 | h3
    · exact hm h3
    · omega
  · rcases k.new x hx with h2 | h2
    · exact h.new x h2
    · exact .inr (Nat.le_trans h.chg.size h2)
theorem Mv.later {a b c : World} {m1 m2 : Own} (h : Mv a b m1 m2) (k : Below b.heap.size b c) : Mv a c m1 m2 := h.trans ⟨Chg.of_below k, fun _ h => .inl h, rfl⟩
theorem Mv.of_below {a b : World} {m : Own} (k : Below a.heap.size a b) : Mv a b m m := ⟨Chg.of_below k, fun _ h => .inl h, rfl⟩
theorem Mv.below {w w' : World} {ms ms' : Own} {B : Nat} (h : Mv w w' ms ms') (hB : B ≤ w.heap.size) (hm : ∀ b, ms b → B ≤ b) : Below B w w' := h.chg.below hB hm

theorem Glob.chg {w w' : World} {M : Nat → Prop} (h : Glob w) (hc : Chg w w' M) (hm : ∀ b, M b → 8 ≤ b) (hs : 8 ≤ w.heap.size) : Glob w' := by
  have hb : Below 8 w w' := hc.below hs hm
  exact ⟨Nat.le_trans h.size hb.size, by rw [hb.cell (by simp only; omega)]; exact h.tz, var?_below (g := 0) hb (by kernel_rfl) (by omega) h.pow,
    by obtain ⟨a, b, c⟩ := h.esyn; exact ⟨a, b, by rw [hb.cell (by simp only; omega)]; exact c⟩, by obtain ⟨a, b, c⟩ := h.eran; exact ⟨a, b, by rw [hb.cell (by simp only; omega)]; exact c⟩⟩

section
variable {w w' : World} {rd : Nat} {ms : Own} {s : RS} {out : List ReqV} {vo vl vf vb : Value}
theorem RdrO.lt (h : RdrO w rd ms s out vo vl vf vb) : rd < w.heap.size := (Array.getElem?_eq_some_iff.1 h.box).1
theorem RdrO.size (h : RdrO w rd ms s out vo vl vf vb) : 8 ≤ w.heap.size := by have := h.low rd h.rdM; omega
/-- others wrote -/
theorem RdrIn.kept {M : Nat → Prop} (h : RdrIn w rd ms s out vo vl vf vb) (hc : Chg w w' M) (hM : ∀ b, M b → 8 ≤ b) (hm : ∀ b, ms b → ¬ M b) (ho : ∀ xs ok, w.ownsRow 0 31 6 vo out.length xs → ReqRows w ok out xs → (∀ b, ok b → ¬ ms b ∧ ms.q b) → ∃ ok', ReqRows w' ok' out xs ∧ ∀ b, ok' b → ¬ ms b ∧ ms.q b) : RdrIn w' rd ms s out vo vl vf vb where
  glob := h.glob.chg hc hM h.size
  box := (hc.block rd h.lt (hm rd h.rdM)).trans h.box
  line := row_kept h.line fun g hg hl => hc.block g hl (hm g (h.oL g hg).1)
  body := row_kept h.body fun g hg hl => hc.block g hl (hm g (h.oB g hg).1)
  flds := row_kept h.flds fun g hg hl => hc.block g hl (hm g (h.oF g hg).1)
  outs := by
    obtain ⟨xs, ok, h1, h2, h3⟩ := h.outs
    obtain ⟨ok', h4, h5⟩ := ho xs ok h1 h2 h3
    exact ⟨xs, ok', row_kept h1 fun g hg hl => hc.block g hl (hm g (h.oO g hg).1), h4, h5⟩
  rdM := h.rdM
  oL := h.oL
  oB := h.oB
  oF := h.oF
  oO := h.oO
  lb := h.lb
  lf := h.lf
  lo := h.lo
  bf := h.bf
  bo := h.bo
  fo := h.fo
  low := fun b hb => ⟨(h.low b hb).1, Nat.lt_of_lt_of_le (h.low b hb).2 hc.size⟩
  own := ⟨h.own.1, fun b hb => h.own.2 b (Nat.le_trans hc.size hb)⟩
theorem RdrIn.later (h : RdrIn w rd ms s out vo vl vf vb) (hb : Below w.heap.size w w') : RdrIn w' rd ms s out vo vl vf vb :=
  h.kept (M := fun _ => False) (Chg.of_below hb) (fun _ x => x.elim) (fun _ _ x => x) fun _ ok _ h2 h3 => ⟨ok, h2.kept (fun b hl _ => hb.block b hl) (fun _ _ x => x), h3⟩
/-- a cell of the box was written -/
theorem RdrIn.set (h : RdrIn w rd ms s out vo vl vf vb) (o : Nat) (v : Value) (s' : RS) (hs : (s.cells rd vo vl vf vb).setIfInBounds o v = s'.cells rd vo vl vf vb) (hl : s'.line = s.line) (hb : s'.body = s.body) (hf : s'.fields = s.fields) :
    RdrIn (w.setCell ⟨rd, o, none⟩ v) rd ms s' out vo vl vf vb where
  glob := h.glob.chg (Chg.set w ⟨rd, o, none⟩ v) (fun b hb => by simp only at hb; rw [hb]; exact (h.low rd h.rdM).1) h.size
  box := by rw [heap_set h.box, hs]
  line := by rw [hl]; exact row_kept h.line fun g hg _ => Below.heap_setCell _ _ _ _ (h.oL g hg).2
  body := by rw [hb]; exact row_kept h.body fun g hg _ => Below.heap_setCell _ _ _ _ (h.oB g hg).2
  flds := by rw [hf]; exact row_kept h.flds fun g hg _ => Below.heap_setCell _ _ _ _ (h.oF g hg).2
  outs := by
    obtain ⟨xs, ok, h1, h2, h3⟩ := h.outs
    exact ⟨xs, ok, row_kept h1 fun g hg _ => Below.heap_setCell _ _ _ _ (h.oO g hg).2, h2.kept (fun b _ hob => Below.heap_setCell _ _ _ _ (fun e => (h3 b hob).1 (by simp only at e; rw [e]; exact h.rdM))) (fun _ _ x => x), h3⟩
  rdM := h.rdM
  oL := h.oL
  oB := h.oB
  oF := h.oF
  oO := h.oO
  lb := h.lb
  lf := h.lf
  lo := h.lo
  bf := h.bf
  bo := h.bo
  fo := h.fo
  low := fun b hb => by have := h.low b hb; simpa [World.setCell] using this
  own := ⟨h.own.1, fun b hb => h.own.2 b (by simpa [World.setCell] using hb)⟩
theorem RdrO.mvSet (h : RdrO w rd ms s out vo vl vf vb) (o : Nat) (v : Value) : Mv w (w.setCell ⟨rd, o, none⟩ v) ms ms :=
  ⟨(Chg.set w ⟨rd, o, none⟩ v).mono fun b _ e => by simp only at e; rw [e]; exact h.rdM, fun _ x => .inl x, rfl⟩
theorem RdrIn.past {w1 : World} {v : Value} (h : RdrIn w rd ms s out vo vl vf vb) (hv : ∀ b, v.ownBlock = some b → ms b ∧ b ≠ rd) (hgr : w.grownBy w1 v.ownBlock) : w1.heap[rd]? = some (.cells (s.cells rd vo vl vf vb) 67 (0, 0)) := by
  rw [hgr.block rd h.lt (fun e => (hv rd e.symm).2 rfl)]; exact h.box
/-- the box was laid anew -/
theorem RdrO.reset (h : RdrO w rd ms s out vo vl vf vb) (hw : w'.heap[rd]? = some (.cells (s.begin.cells rd vo (.slice none 0 0) (.slice none 0 0) (.slice none 0 0)) 67 (0, 0))) (hc : Chg w w' (fun b => b = rd)) :
    RdrIn w' rd ms s.begin out vo (.slice none 0 0) (.slice none 0 0) (.slice none 0 0) where
  glob := h.glob.chg hc (fun b hb => by rw [hb]; exact (h.low rd h.rdM).1) h.size
  box := hw
  line := World.ownsRow_nil _ _ _ _
  body := World.ownsRow_nil _ _ _ _
  flds := World.ownsRow_nil _ _ _ _
  outs := by
    obtain ⟨xs, ok, h1, h2, h3⟩ := h.outs
    exact ⟨xs, ok, row_kept h1 fun g hg hl => hc.block g hl (h.oO g hg).2, h2.kept (fun b hl hob => hc.block b hl (fun e => (h3 b hob).1 (by rw [e]; exact h.rdM))) (fun _ _ x => x), h3⟩
  rdM := h.rdM
  oL := fun b hb => by cases hb
  oB := fun b hb => by cases hb
  oF := fun b hb => by cases hb
  oO := h.oO
  lb := Dj.nil _
  lf := Dj.nil _
  lo := Dj.nil _
  bf := Dj.nil _
  bo := Dj.nil _
  fo := Dj.nil _
  low := fun b hb => ⟨(h.low b hb).1, Nat.lt_of_lt_of_le (h.low b hb).2 hc.size⟩
  own := ⟨h.own.1, fun b hb => h.own.2 b (Nat.le_trans hc.size hb)⟩
/-- line[:0] -/
theorem RdrIn.line0 {a : Option Addr} {n c : Nat} (h : RdrIn w rd ms s out vo (.slice a n c) vf vb) : RdrIn (w.setCell ⟨rd, 4, none⟩ (.slice a 0 c)) rd ms { s with line := [] } out vo (.slice a 0 c) vf vb where
  glob := h.glob.chg (Chg.set w ⟨rd, 4, none⟩ (.slice a 0 c)) (fun b hb => by simp only at hb; rw [hb]; exact (h.low rd h.rdM).1) h.size
  box := by rw [heap_set h.box]; rfl
  line := by
    refine row_kept (w := w) ⟨rfl, ?_⟩ fun g hg _ => Below.heap_setCell _ _ _ _ (h.oL g (by cases a <;> exact hg)).2
    rcases h.line.2 with ⟨h1, _⟩ | ⟨g, cap, cur, hv, h1, h2, h3, h4, h5, h6⟩
    · injection h1 with h1 h2 h3
      subst h1 h3
      exact .inl ⟨rfl, rfl⟩
    · injection hv with e1 e2 e3
      subst e1 e3
      exact .inr ⟨g, c, cur, rfl, h1, h2, Nat.zero_le _, h4, h5, by simp [Lib.byteCells]⟩
  body := row_kept h.body fun g hg _ => Below.heap_setCell _ _ _ _ (h.oB g hg).2
  flds := row_kept h.flds fun g hg _ => Below.heap_setCell _ _ _ _ (h.oF g hg).2
  outs := by
    obtain ⟨xs, ok, h1, h2, h3⟩ := h.outs
    exact ⟨xs, ok, row_kept h1 fun g hg _ => Below.heap_setCell _ _ _ _ (h.oO g hg).2, h2.kept (fun b _ hob => Below.heap_setCell _ _ _ _ (fun e => (h3 b hob).1 (by simp only at e; rw [e]; exact h.rdM))) (fun _ _ x => x), h3⟩
  rdM := h.rdM
  oL := fun b hb => h.oL b (by cases a <;> exact hb)
  oB := h.oB
  oF := h.oF
  oO := h.oO
  lb := fun b hb => h.lb b (by cases a <;> exact hb)
  lf := fun b hb => h.lf b (by cases a <;> exact hb)
  lo := fun b hb => h.lo b (by cases a <;> exact hb)
  bf := h.bf
  bo := h.bo
  fo := h.fo
  low := fun b hb => by have := h.low b hb; simpa [World.setCell] using this
  own := ⟨h.own.1, fun b hb => h.own.2 b (by simpa [World.setCell] using hb)⟩
/-- a byte behind the line -/
theorem RdrIn.pushLine {g n cap : Nat} {wa w1 : World} {news : List Value} {s' : RS} (h : RdrIn wa rd ms s out vo vl vf vb) (hown : w1.ownsRow 0 5 1 (.slice (some ⟨g, 0, none⟩) n cap) n (Lib.byteCells s.line ++ news)) (hgr : wa.grownBy w1 vl.ownBlock) (hat : vl.ownBlock = some g ∨ g = wa.heap.size) (hlt : g < w1.heap.size)
    (hs : (s.cells rd vo vl vf vb).setIfInBounds 4 (.slice (some ⟨g, 0, none⟩) n cap) = s'.cells rd vo (.slice (some ⟨g, 0, none⟩) n cap) vf vb) (hl : s'.line.length = n ∧ Lib.byteCells s'.line = Lib.byteCells s.line ++ news) (hb : s'.body = s.body) (hf : s'.fields = s.fields) :
    RdrIn (w1.setCell ⟨rd, 4, none⟩ (.slice (some ⟨g, 0, none⟩) n cap)) rd (ms.to fun b => ms b ∨ b = g) s' out vo (.slice (some ⟨g, 0, none⟩) n cap) vf vb ∧ Mv wa (w1.setCell ⟨rd, 4, none⟩ (.slice (some ⟨g, 0, none⟩) n cap)) ms (ms.to fun b => ms b ∨ b = g) := by
  have hrv : vl.ownBlock ≠ some rd := fun e => (h.oL rd e).2 rfl
  have hgrd : g ≠ rd := by
    rcases hat with e | e
    · exact (h.oL g e).2
    · have := h.lt; omega
  have hgl : 8 ≤ g := by
    rcases hat with e | e
    · exact (h.low g (h.oL g e).1).1
    · have := h.size; omega
  have hc : Chg wa (w1.setCell ⟨rd, 4, none⟩ (.slice (some ⟨g, 0, none⟩) n cap)) (fun b => b = rd ∨ some b = vl.ownBlock) := ((Chg.grown hgr).mono (fun _ _ x => .inr x)).trans ((Chg.set _ _ _).mono (fun _ _ x => .inl x))
  have hcm : ∀ b, (b = rd ∨ some b = vl.ownBlock) → ms b := fun b hb => by
    rcases hb with e | e
    · rw [e]; exact h.rdM
    · exact (h.oL b e.symm).1
  have far : ∀ u : Value, (∀ b, u.ownBlock = some b → ms b ∧ b ≠ rd) → Dj vl u → ∀ k, u.ownBlock = some k → ¬ (k = rd ∨ some k = vl.ownBlock) := fun u hu hd k hk hb => by
    rcases hb with e | e
    · exact (hu k hk).2 e
    · exact hd k e.symm hk
  have hng : ∀ u : Value, (∀ b, u.ownBlock = some b → ms b ∧ b ≠ rd) → Dj vl u → u.ownBlock ≠ some g := fun u hu hd e => by
    rcases hat with e2 | e2
    · exact hd g e2 e
    · have := (h.low g (hu g e).1).2; omega
  have hbox1 : w1.heap[rd]? = some (.cells (s.cells rd vo vl vf vb) 67 (0, 0)) := by rw [hgr.block rd h.lt (fun e => hrv e.symm)]; exact h.box
  refine ⟨⟨⟨h.glob.chg hc (fun b hb => (h.low b (hcm b hb)).1) h.size, by rw [heap_set hbox1, hs], ?_, .inl h.rdM, fun b hb => ?_, fun b hb => ?_, ⟨fun b hb => ?_, fun b hb => h.own.2 b (Nat.le_trans hc.size hb)⟩⟩, ?_, ?_, ?_, fun b hb => ?_, fun b hb => ?_, fun b hb => ?_, ?_, ?_, ?_, ?_, ?_, ?_⟩, hc.mono fun b _ hb => hcm b hb, fun b hb => ?_, rfl⟩
  · obtain ⟨xs, ok, h1, h2, h3⟩ := h.outs
    refine ⟨xs, fun b => ok b ∧ b < wa.heap.size, row_kept h1 fun k hk hl => hc.block k hl (far vo h.oO h.lo k hk), h2.kept (fun b hl hob => hc.block b hl (fun e => (h3 b hob).1 (hcm b e))) (fun b hl x => ⟨x, hl⟩), fun b hb => ⟨fun hm => ?_, (h3 b hb.1).2⟩⟩
    rcases hm with hm | hm
    · exact (h3 b hb.1).1 hm
    · rcases hat with e | e
      · exact (h3 b hb.1).1 (by rw [hm]; exact (h.oL g e).1)
      · have := hb.2; omega
  · exact ⟨.inl (h.oO b hb).1, (h.oO b hb).2⟩
  · rcases hb with hb | hb
    · exact ⟨(h.low b hb).1, Nat.lt_of_lt_of_le (h.low b hb).2 hc.size⟩
    · rw [hb]; exact ⟨hgl, by simpa [World.setCell] using hlt⟩
  · rcases hb with hb | hb
    · exact h.own.1 b hb
    · rcases hat with e | e
      · exact h.own.1 b (by rw [hb]; exact (h.oL g e).1)
      · exact h.own.2 b (by omega)
  · rw [hl.1, hl.2]; refine row_kept hown fun k hk _ => Below.heap_setCell _ _ _ _ ?_
    exact fun x => hgrd (by have := hk.trans (congrArg some x); simpa [Value.ownBlock] using this)
  · rw [hb]; exact row_kept h.body fun k hk hl => hc.block k hl (far vb h.oB h.lb k hk)
  · rw [hf]; exact row_kept h.flds fun k hk hl => hc.block k hl (far vf h.oF h.lf k hk)
  · injection hb with e; rw [← e]; exact ⟨.inr rfl, hgrd⟩
  · exact ⟨.inl (h.oB b hb).1, (h.oB b hb).2⟩
  · exact ⟨.inl (h.oF b hb).1, (h.oF b hb).2⟩
  · intro b hb; injection hb with e; rw [← e]; exact hng vb h.oB h.lb
  · intro b hb; injection hb with e; rw [← e]; exact hng vf h.oF h.lf
  · intro b hb; injection hb with e; rw [← e]; exact hng vo h.oO h.lo
  · exact h.bf
  · exact h.bo
  · exact h.fo
  · rcases hb with hb | hb
    · exact .inl hb
    · rcases hat with e | e
      · exact .inl (by rw [hb]; exact (h.oL g e).1)
      · exact .inr (by omega)
/-- a byte behind the body -/
theorem RdrIn.pushBody {g n cap : Nat} {wa w1 : World} {news : List Value} {s' : RS} (h : RdrIn wa rd ms s out vo vl vf vb) (hown : w1.ownsRow 0 5 1 (.slice (some ⟨g, 0, none⟩) n cap) n (Lib.byteCells s.body ++ news)) (hgr : wa.grownBy w1 vb.ownBlock) (hat : vb.ownBlock = some g ∨ g = wa.heap.size) (hlt : g < w1.heap.size)
    (hs : (s.cells rd vo vl vf vb).setIfInBounds 14 (.slice (some ⟨g, 0, none⟩) n cap) = s'.cells rd vo vl vf (.slice (some ⟨g, 0, none⟩) n cap)) (hb : s'.body.length = n ∧ Lib.byteCells s'.body = Lib.byteCells s.body ++ news) (hl : s'.line = s.line) (hf : s'.fields = s.fields) :
    RdrIn (w1.setCell ⟨rd, 14, none⟩ (.slice (some ⟨g, 0, none⟩) n cap)) rd (ms.to fun b => ms b ∨ b = g) s' out vo vl vf (.slice (some ⟨g, 0, none⟩) n cap) ∧ Mv wa (w1.setCell ⟨rd, 14, none⟩ (.slice (some ⟨g, 0, none⟩) n cap)) ms (ms.to fun b => ms b ∨ b = g) := by
  have hrv : vb.ownBlock ≠ some rd := fun e => (h.oB rd e).2 rfl
  have hgrd : g ≠ rd := by
    rcases hat with e | e
    · exact (h.oB g e).2
    · have := h.lt; omega
  have hgl : 8 ≤ g := by
    rcases hat with e | e
    · exact (h.low g (h.oB g e).1).1
    · have := h.size; omega
  have hc : Chg wa (w1.setCell ⟨rd, 14, none⟩ (.slice (some ⟨g, 0, none⟩) n cap)) (fun b => b = rd ∨ some b = vb.ownBlock) := ((Chg.grown hgr).mono (fun _ _ x => .inr x)).trans ((Chg.set _ _ _).mono (fun _ _ x => .inl x))
  have hcm : ∀ b, (b = rd ∨ some b = vb.ownBlock) → ms b := fun b hb => by
    rcases hb with e | e
    · rw [e]; exact h.rdM
    · exact (h.oB b e.symm).1
  have far : ∀ u : Value, (∀ b, u.ownBlock = some b → ms b ∧ b ≠ rd) → Dj vb u → ∀ k, u.ownBlock = some k → ¬ (k = rd ∨ some k = vb.ownBlock) := fun u hu hd k hk hb => by
    rcases hb with e | e
    · exact (hu k hk).2 e
    · exact hd k e.symm hk
  have hng : ∀ u : Value, (∀ b, u.ownBlock = some b → ms b ∧ b ≠ rd) → Dj vb u → u.ownBlock ≠ some g := fun u hu hd e => by
    rcases hat with e2 | e2
    · exact hd g e2 e
    · have := (h.low g (hu g e).1).2; omega
  have hbox1 : w1.heap[rd]? = some (.cells (s.cells rd vo vl vf vb) 67 (0, 0)) := by rw [hgr.block rd h.lt (fun e => hrv e.symm)]; exact h.box
  refine ⟨⟨⟨h.glob.chg hc (fun b hb => (h.low b (hcm b hb)).1) h.size, by rw [heap_set hbox1, hs], ?_, .inl h.rdM, fun b hb => ?_, fun b hb => ?_, ⟨fun b hb => ?_, fun b hb => h.own.2 b (Nat.le_trans hc.size hb)⟩⟩, ?_, ?_, ?_, fun b hb => ?_, fun b hb => ?_, fun b hb => ?_, ?_, ?_, ?_, ?_, ?_, ?_⟩, hc.mono fun b _ hb => hcm b hb, fun b hb => ?_, rfl⟩
  · obtain ⟨xs, ok, h1, h2, h3⟩ := h.outs
    refine ⟨xs, fun b => ok b ∧ b < wa.heap.size, row_kept h1 fun k hk hl => hc.block k hl (far vo h.oO h.bo k hk), h2.kept (fun b hl hob => hc.block b hl (fun e => (h3 b hob).1 (hcm b e))) (fun b hl x => ⟨x, hl⟩), fun b hb => ⟨fun hm => ?_, (h3 b hb.1).2⟩⟩
    rcases hm with hm | hm
    · exact (h3 b hb.1).1 hm
    · rcases hat with e | e
      · exact (h3 b hb.1).1 (by rw [hm]; exact (h.oB g e).1)
      · have := hb.2; omega
  · exact ⟨.inl (h.oO b hb).1, (h.oO b hb).2⟩
  · rcases hb with hb | hb
    · exact ⟨(h.low b hb).1, Nat.lt_of_lt_of_le (h.low b hb).2 hc.size⟩
    · rw [hb]; exact ⟨hgl, by simpa [World.setCell] using hlt⟩
  · rcases hb with hb | hb
    · exact h.own.1 b hb
    · rcases hat with e | e
      · exact h.own.1 b (by rw [hb]; exact (h.oB g e).1)
      · exact h.own.2 b (by omega)
  · rw [hl]; exact row_kept h.line fun k hk hl => hc.block k hl (far vl h.oL h.lb.symm k hk)
  · rw [hb.1, hb.2]; refine row_kept hown fun k hk _ => Below.heap_setCell _ _ _ _ ?_
    exact fun x => hgrd (by have := hk.trans (congrArg some x); simpa [Value.ownBlock] using this)
  · rw [hf]; exact row_kept h.flds fun k hk hl => hc.block k hl (far vf h.oF h.bf k hk)
  · exact ⟨.inl (h.oL b hb).1, (h.oL b hb).2⟩
  · injection hb with e; rw [← e]; exact ⟨.inr rfl, hgrd⟩
  · exact ⟨.inl (h.oF b hb).1, (h.oF b hb).2⟩
  · intro b hb e2; injection e2 with e; rw [← e] at hb; exact hng vl h.oL h.lb.symm hb
  · exact h.lf
  · exact h.lo
  · intro b hb; injection hb with e; rw [← e]; exact hng vf h.oF h.bf
  · intro b hb; injection hb with e; rw [← e]; exact hng vo h.oO h.bo
  · exact h.fo
  · rcases hb with hb | hb
    · exact .inl hb
    · rcases hat with e | e
      · exact .inl (by rw [hb]; exact (h.oB g e).1)
      · exact .inr (by omega)
/-- one more field -/
theorem RdrIn.pushField {g n cap : Nat} {wa w1 : World} {news : List Value} {s' : RS} (h : RdrIn wa rd ms s out vo vl vf vb) (hown : w1.ownsRow 0 58 2 (.slice (some ⟨g, 0, none⟩) n cap) n (pairCells s.fields ++ news)) (hgr : wa.grownBy w1 vf.ownBlock) (hat : vf.ownBlock = some g ∨ g = wa.heap.size) (hlt : g < w1.heap.size)
    (hs : (s.cells rd vo vl vf vb).setIfInBounds 11 (.slice (some ⟨g, 0, none⟩) n cap) = s'.cells rd vo vl (.slice (some ⟨g, 0, none⟩) n cap) vb) (hf : s'.fields.length = n ∧ pairCells s'.fields = pairCells s.fields ++ news) (hl : s'.line = s.line) (hb : s'.body = s.body) :
    RdrIn (w1.setCell ⟨rd, 11, none⟩ (.slice (some ⟨g, 0, none⟩) n cap)) rd (ms.to fun b => ms b ∨ b = g) s' out vo vl (.slice (some ⟨g, 0, none⟩) n cap) vb ∧ Mv wa (w1.setCell ⟨rd, 11, none⟩ (.slice (some ⟨g, 0, none⟩) n cap)) ms (ms.to fun b => ms b ∨ b = g) := by
  have hrv : vf.ownBlock ≠ some rd := fun e => (h.oF rd e).2 rfl
  have hgrd : g ≠ rd := by
    rcases hat with e | e
    · exact (h.oF g e).2
    · have := h.lt; omega
  have hgl : 8 ≤ g := by
    rcases hat with e | e
    · exact (h.low g (h.oF g e).1).1
    · have := h.size; omega
  have hc : Chg wa (w1.setCell ⟨rd, 11, none⟩ (.slice (some ⟨g, 0, none⟩) n cap)) (fun b => b = rd ∨ some b = vf.ownBlock) := ((Chg.grown hgr).mono (fun _ _ x => .inr x)).trans ((Chg.set _ _ _).mono (fun _ _ x => .inl x))
  have hcm : ∀ b, (b = rd ∨ some b = vf.ownBlock) → ms b := fun b hb => by
    rcases hb with e | e
    · rw [e]; exact h.rdM
    · exact (h.oF b e.symm).1
  have far : ∀ u : Value, (∀ b, u.ownBlock = some b → ms b ∧ b ≠ rd) → Dj vf u → ∀ k, u.ownBlock = some k → ¬ (k = rd ∨ some k = vf.ownBlock) := fun u hu hd k hk hb => by
    rcases hb with e | e
    · exact (hu k hk).2 e
    · exact hd k e.symm hk
  have hng : ∀ u : Value, (∀ b, u.ownBlock = some b → ms b ∧ b ≠ rd) → Dj vf u → u.ownBlock ≠ some g := fun u hu hd e => by
    rcases hat with e2 | e2
    · exact hd g e2 e
    · have := (h.low g (hu g e).1).2; omega
  have hbox1 : w1.heap[rd]? = some (.cells (s.cells rd vo vl vf vb) 67 (0, 0)) := by rw [hgr.block rd h.lt (fun e => hrv e.symm)]; exact h.box
  refine ⟨⟨⟨h.glob.chg hc (fun b hb => (h.low b (hcm b hb)).1) h.size, by rw [heap_set hbox1, hs], ?_, .inl h.rdM, fun b hb => ?_, fun b hb => ?_, ⟨fun b hb => ?_, fun b hb => h.own.2 b (Nat.le_trans hc.size hb)⟩⟩, ?_, ?_, ?_, fun b hb => ?_, fun b hb => ?_, fun b hb => ?_, ?_, ?_, ?_, ?_, ?_, ?_⟩, hc.mono fun b _ hb => hcm b hb, fun b hb => ?_, rfl⟩
  · obtain ⟨xs, ok, h1, h2, h3⟩ := h.outs
    refine ⟨xs, fun b => ok b ∧ b < wa.heap.size, row_kept h1 fun k hk hl => hc.block k hl (far vo h.oO h.fo k hk), h2.kept (fun b hl hob => hc.block b hl (fun e => (h3 b hob).1 (hcm b e))) (fun b hl x => ⟨x, hl⟩), fun b hb => ⟨fun hm => ?_, (h3 b hb.1).2⟩⟩
    rcases hm with hm | hm
    · exact (h3 b hb.1).1 hm
    · rcases hat with e | e
      · exact (h3 b hb.1).1 (by rw [hm]; exact (h.oF g e).1)
      · have := hb.2; omega
  · exact ⟨.inl (h.oO b hb).1, (h.oO b hb).2⟩
  · rcases hb with hb | hb
    · exact ⟨(h.low b hb).1, Nat.lt_of_lt_of_le (h.low b hb).2 hc.size⟩
    · rw [hb]; exact ⟨hgl, by simpa [World.setCell] using hlt⟩
  · rcases hb with hb | hb
    · exact h.own.1 b hb
    · rcases hat with e | e
      · exact h.own.1 b (by rw [hb]; exact (h.oF g e).1)
      · exact h.own.2 b (by omega)
  · rw [hl]; exact row_kept h.line fun k hk hl => hc.block k hl (far vl h.oL h.lf.symm k hk)
  · rw [hb]; exact row_kept h.body fun k hk hl => hc.block k hl (far vb h.oB h.bf.symm k hk)
  · rw [hf.1, hf.2]; refine row_kept hown fun k hk _ => Below.heap_setCell _ _ _ _ ?_
    exact fun x => hgrd (by have := hk.trans (congrArg some x); simpa [Value.ownBlock] using this)
  · exact ⟨.inl (h.oL b hb).1, (h.oL b hb).2⟩
  · exact ⟨.inl (h.oB b hb).1, (h.oB b hb).2⟩
  · injection hb with e; rw [← e]; exact ⟨.inr rfl, hgrd⟩
  · exact h.lb
  · intro b hb e2; injection e2 with e; rw [← e] at hb; exact hng vl h.oL h.lf.symm hb
  · exact h.lo
  · intro b hb e2; injection e2 with e; rw [← e] at hb; exact hng vb h.oB h.bf.symm hb
  · exact h.bo
  · intro b hb; injection hb with e; rw [← e]; exact hng vo h.oO h.fo
  · rcases hb with hb | hb
    · exact .inl hb
    · rcases hat with e | e
      · exact .inl (by rw [hb]; exact (h.oF g e).1)
      · exact .inr (by omega)
/-- a request behind those that are told -/
theorem RdrIn.pushOut {g n cap : Nat} {wa w1 : World} {body : List UInt8} {cl : Bool} (h : RdrIn wa rd ms s out vo vl vf vb) {xs : List Value} {ok : Nat → Prop} (h2 : ReqRows wa ok out xs) (h3 : ∀ b, ok b → ¬ ms b ∧ ms.q b)
    (hown : w1.ownsRow 0 31 6 (.slice (some ⟨g, 0, none⟩) n cap) n (xs ++ [.string ⟨s.meth.toArray⟩, .string ⟨s.target.toArray⟩, .int .i64 s.minor, vf, .string ⟨body.toArray⟩, .bool cl])) (hn : n = out.length + 1) (hgr : wa.grownBy w1 vo.ownBlock) (hat : vo.ownBlock = some g ∨ g = wa.heap.size) (hlt : g < w1.heap.size) :
    RdrO (w1.setCell ⟨rd, 3, none⟩ (.slice (some ⟨g, 0, none⟩) n cap)) rd (ms.to fun b => (ms b ∧ vf.ownBlock ≠ some b) ∨ b = g) s (out ++ [⟨s.meth, s.target, s.minor, s.fields, body, cl⟩]) (.slice (some ⟨g, 0, none⟩) n cap) vl vf vb ∧ Mv wa (w1.setCell ⟨rd, 3, none⟩ (.slice (some ⟨g, 0, none⟩) n cap)) ms (ms.to fun b => (ms b ∧ vf.ownBlock ≠ some b) ∨ b = g) := by
  have hrv : vo.ownBlock ≠ some rd := fun e => (h.oO rd e).2 rfl
  have hgrd : g ≠ rd := by
    rcases hat with e | e
    · exact (h.oO g e).2
    · have := h.lt; omega
  have hgl : 8 ≤ g := by
    rcases hat with e | e
    · exact (h.low g (h.oO g e).1).1
    · have := h.size; omega
  have hc : Chg wa (w1.setCell ⟨rd, 3, none⟩ (.slice (some ⟨g, 0, none⟩) n cap)) (fun b => b = rd ∨ some b = vo.ownBlock) := ((Chg.grown hgr).mono (fun _ _ x => .inr x)).trans ((Chg.set _ _ _).mono (fun _ _ x => .inl x))
  have hcm : ∀ b, (b = rd ∨ some b = vo.ownBlock) → ms b := fun b hb => by
    rcases hb with e | e
    · rw [e]; exact h.rdM
    · exact (h.oO b e.symm).1
  have hbox1 : w1.heap[rd]? = some (.cells (s.cells rd vo vl vf vb) 67 (0, 0)) := by rw [hgr.block rd h.lt (fun e => hrv e.symm)]; exact h.box
  have hfk : ∀ k, vf.ownBlock = some k → ¬ (k = rd ∨ some k = vo.ownBlock) := fun k hk hb => by
    rcases hb with e | e
    · exact (h.oF k hk).2 e
    · exact h.fo k hk e.symm
  have hfg : vf.ownBlock ≠ some g := fun e => by
    rcases hat with e2 | e2
    · exact h.fo g e e2
    · have := (h.low g (h.oF g e).1).2; omega
  refine ⟨⟨h.glob.chg hc (fun b hb => (h.low b (hcm b hb)).1) h.size, by rw [heap_set hbox1]; rfl, ⟨_, fun b => (ok b ∧ b < wa.heap.size) ∨ vf.ownBlock = some b, ?_, ReqRows.append (h2.kept (fun b hl hob => hc.block b hl (fun e => (h3 b hob).1 (hcm b e))) (fun b hl x => .inl ⟨x, hl⟩)) ⟨vf, [], rfl, row_kept h.flds fun k hk hl => hc.block k hl (hfk k hk), fun b hb => .inr hb, rfl⟩, ?_⟩, .inl ⟨h.rdM, fun e => (h.oF rd e).2 rfl⟩, ?_, ?_, ⟨fun b hb => ?_, fun b hb => h.own.2 b (Nat.le_trans hc.size hb)⟩⟩, hc.mono fun b _ hb => hcm b hb, ?_, rfl⟩
  · rw [show (out ++ [(⟨s.meth, s.target, s.minor, s.fields, body, cl⟩ : ReqV)]).length = n from by simp [hn]]
    refine row_kept hown fun k hk _ => Below.heap_setCell _ _ _ _ ?_
    exact fun x => hgrd (by have := hk.trans (congrArg some x); simpa [Value.ownBlock] using this)
  · intro b hb
    refine ⟨fun hm => ?_, by rcases hb with hb | hb <;> first | exact (h3 b hb.1).2 | exact h.own.1 b (h.oF b hb).1⟩
    rcases hb with hb | hb
    · rcases hm with hm | hm
      · exact (h3 b hb.1).1 hm.1
      · rcases hat with e | e
        · exact (h3 b hb.1).1 (by rw [hm]; exact (h.oO g e).1)
        · have := hb.2; omega
    · rcases hm with hm | hm
      · exact hm.2 hb
      · exact hfg (by rw [← hm]; exact hb)
  · intro b hb
    injection hb with e
    rw [← e]
    exact ⟨.inr rfl, hgrd⟩
  · intro b hb
    rcases hb with hb | hb
    · exact ⟨(h.low b hb.1).1, Nat.lt_of_lt_of_le (h.low b hb.1).2 hc.size⟩
    · rw [hb]; exact ⟨hgl, by simpa [World.setCell] using hlt⟩
  · rcases hb with hb | hb
    · exact h.own.1 b hb.1
    · rcases hat with e | e
      · exact h.own.1 b (by rw [hb]; exact (h.oO g e).1)
      · exact h.own.2 b (by omega)
  · intro b hb
    rcases hb with hb | hb
    · exact .inl hb.1
    · rcases hat with e | e
      · exact .inl (by rw [hb]; exact (h.oO g e).1)
      · exact .inr (by omega)
/-- what is its own is named anew -/
theorem RdrIn.anew (h : RdrIn w rd ms s [] vo vl vf vb) {o : Own} (hp : o.p = ms.p) (h1 : ∀ b, ms b → o.q b) (h2 : ∀ b, w.heap.size ≤ b → o.q b) : RdrIn w rd o s [] vo vl vf vb := by
  obtain ⟨op, oq⟩ := o
  obtain ⟨mp, mq⟩ := ms
  subst hp
  obtain ⟨xs, ok, k1, k2, k3⟩ := h.outs
  have hx : xs = [] := by
    have := k1.1
    have h0 := h.outs
    exact List.eq_nil_of_length_eq_zero (by simpa using k1.1)
  subst hx
  exact { h with outs := ⟨[], fun _ => False, k1, rfl, fun _ x => x.elim⟩, own := ⟨h1, h2⟩ }
end

/-- what a method leaves -/
def RdPost (w : World) (rd : Nat) (ms : Own) (s' : RS) (out' : List ReqV) (w' : World) : Prop := ∃ ms', RdrAt w' rd ms' s' out' ∧ Mv w w' ms ms'

end Go.Proofs.YtdilmefeofdkmaaGreatDoor
