/-
  WIRE: how the document's Reader lies in memory. (Printed by wip/gen/wxrd.py out of WiRd.)
-/
import Derived.Test.YtdilmefeofdkmaaGreatDoorWiRd
import Derived.Test.YtdilmefeofdkmaaGreatDoorWxPlain
namespace Go.Proofs.YtdilmefeofdkmaaGreatDoor
open Go.RowKit

/-- the blocks ms were written, and new ones -/
structure Xv (w w' : World) (ms ms' : Nat → Prop) : Prop where
  chg : Chg w w' ms
  new : ∀ b, ms' b → ms b ∨ w.heap.size ≤ b
theorem Xv.refl (w : World) (ms : Nat → Prop) : Xv w w ms ms := ⟨Chg.refl _ _, fun _ h => .inl h⟩
theorem Xv.trans {a b c : World} {m1 m2 m3 : Nat → Prop} (h : Xv a b m1 m2) (k : Xv b c m2 m3) : Xv a c m1 m3 := by
  refine ⟨⟨k.chg.os.trans h.chg.os, k.chg.tape.trans h.chg.tape, k.chg.output.trans h.chg.output, Nat.le_trans h.chg.size k.chg.size, fun i hi hm => ?_⟩, fun x hx => ?_⟩
  · refine (k.chg.block i (Nat.lt_of_lt_of_le hi h.chg.size) fun h2 => ?_).trans (h.chg.block i hi hm)
    rcases h.new i h2 with h3 | h3
    · exact hm h3
    · omega
  · rcases k.new x hx with h2 | h2
    · exact h.new x h2
    · exact .inr (Nat.le_trans h.chg.size h2)
theorem Xv.later {a b c : World} {m1 m2 : Nat → Prop} (h : Xv a b m1 m2) (k : Below b.heap.size b c) : Xv a c m1 m2 := h.trans ⟨Chg.of_below k, fun _ h => .inl h⟩
theorem Xv.of_below {a b : World} {m : Nat → Prop} (k : Below a.heap.size a b) : Xv a b m m := ⟨Chg.of_below k, fun _ h => .inl h⟩
theorem Xv.below {w w' : World} {ms ms' : Nat → Prop} {B : Nat} (h : Xv w w' ms ms') (hB : B ≤ w.heap.size) (hm : ∀ b, ms b → B ≤ b) : Below B w w' := h.chg.below hB hm

/-- a Reader's cells -/
def QS.cells (q : QS) (_rd : Nat) (vo vl vf vb : Value) : Array Value :=
  #[.int .i64 q.inn, .int .i64 q.head, .int .i64 q.target, .bool q.first, vl, vb, .int .i64 q.left, .string ⟨q.meth.toArray⟩, .string ⟨q.tgt.toArray⟩, .int .i64 q.minor, vf, .string ⟨#[]⟩, .bool false, .int .i64 q.fault, .bool q.done, vo, .bool false]

/-- of a Reader at rd what begin wants: the box, what is told and not yet fetched; ms: the blocks that its methods write -/
structure RefO (w : World) (rd : Nat) (ms : Nat → Prop) (s : QS) (out : List ReqV) (vo vl vf vb : Value) : Prop where
  glob : Glob w
  box : w.heap[rd]? = some (.cells (s.cells rd vo vl vf vb) 43 (0, 0))
  outs : ∃ xs ok, w.ownsRow 0 31 6 vo out.length xs ∧ ReqRows w ok out xs ∧ ∀ b, ok b → ¬ ms b
  rdM : ms rd
  oO : ∀ b, vo.ownBlock = some b → ms b ∧ b ≠ rd
  low : ∀ b, ms b → 8 ≤ b ∧ b < w.heap.size
/-- a Reader at rd: its slices -/
structure RefIn (w : World) (rd : Nat) (ms : Nat → Prop) (s : QS) (out : List ReqV) (vo vl vf vb : Value) : Prop extends RefO w rd ms s out vo vl vf vb where
  line : w.ownsRow 0 5 1 vl s.line.length (Lib.byteCells s.line)
  body : w.ownsRow 0 5 1 vb s.body.length (Lib.byteCells s.body)
  flds : w.ownsRow 0 58 2 vf s.fields.length (pairCells s.fields)
  oL : ∀ b, vl.ownBlock = some b → ms b ∧ b ≠ rd
  oB : ∀ b, vb.ownBlock = some b → ms b ∧ b ≠ rd
  oF : ∀ b, vf.ownBlock = some b → ms b ∧ b ≠ rd
  lb : Dj vl vb
  lf : Dj vl vf
  lo : Dj vl vo
  bf : Dj vb vf
  bo : Dj vb vo
  fo : Dj vf vo
def RefAt (w : World) (rd : Nat) (ms : Nat → Prop) (s : QS) (out : List ReqV) : Prop := ∃ vo vl vf vb, RefIn w rd ms s out vo vl vf vb

section
variable {w w' : World} {rd : Nat} {ms : Nat → Prop} {s : QS} {out : List ReqV} {vo vl vf vb : Value}
theorem RefO.lt (h : RefO w rd ms s out vo vl vf vb) : rd < w.heap.size := (Array.getElem?_eq_some_iff.1 h.box).1
theorem RefO.size (h : RefO w rd ms s out vo vl vf vb) : 8 ≤ w.heap.size := by have := h.low rd h.rdM; omega
/-- others wrote -/
theorem RefIn.kept {M : Nat → Prop} (h : RefIn w rd ms s out vo vl vf vb) (hc : Chg w w' M) (hM : ∀ b, M b → 8 ≤ b) (hm : ∀ b, ms b → ¬ M b) (ho : ∀ xs ok, w.ownsRow 0 31 6 vo out.length xs → ReqRows w ok out xs → (∀ b, ok b → ¬ ms b) → ∃ ok', ReqRows w' ok' out xs ∧ ∀ b, ok' b → ¬ ms b) : RefIn w' rd ms s out vo vl vf vb where
  glob := h.glob.chg hc hM h.size
  box := (hc.block rd h.lt (hm rd h.rdM)).trans h.box
  line := row_kept h.line fun g hg hl => hc.block g hl (hm g (h.oL g hg).1)
  body := row_kept h.body fun g hg hl => hc.block g hl (hm g (h.oB g hg).1)
  flds := row_kept h.flds fun g hg hl => hc.block g hl (hm g (h.oF g hg).1)
  outs := by
    obtain ⟨xs, ok, h1, h2, h3⟩ := h.outs
    obtain ⟨ok', h4, h5⟩ := ho xs ok h1 h2 h3
    exact ⟨xs, ok', row_kept h1 fun g hg hl => hc.block g hl (hm g (h.oO g hg).1), h4, h5⟩
  rdM := h.rdM
  oL := h.oL
  oB := h.oB
  oF := h.oF
  oO := h.oO
  lb := h.lb
  lf := h.lf
  lo := h.lo
  bf := h.bf
  bo := h.bo
  fo := h.fo
  low := fun b hb => ⟨(h.low b hb).1, Nat.lt_of_lt_of_le (h.low b hb).2 hc.size⟩
theorem RefIn.later (h : RefIn w rd ms s out vo vl vf vb) (hb : Below w.heap.size w w') : RefIn w' rd ms s out vo vl vf vb :=
  h.kept (M := fun _ => False) (Chg.of_below hb) (fun _ x => x.elim) (fun _ _ x => x) fun _ ok _ h2 h3 => ⟨ok, h2.kept (fun b hl _ => hb.block b hl) (fun _ _ x => x), h3⟩
/-- a cell of the box was written -/
theorem RefIn.set (h : RefIn w rd ms s out vo vl vf vb) (o : Nat) (v : Value) (s' : QS) (hs : (s.cells rd vo vl vf vb).setIfInBounds o v = s'.cells rd vo vl vf vb) (hl : s'.line = s.line) (hb : s'.body = s.body) (hf : s'.fields = s.fields) :
    RefIn (w.setCell ⟨rd, o, none⟩ v) rd ms s' out vo vl vf vb where
  glob := h.glob.chg (Chg.set w ⟨rd, o, none⟩ v) (fun b hb => by simp only at hb; rw [hb]; exact (h.low rd h.rdM).1) h.size
  box := by rw [heap_set h.box, hs]
  line := by rw [hl]; exact row_kept h.line fun g hg _ => Below.heap_setCell _ _ _ _ (h.oL g hg).2
  body := by rw [hb]; exact row_kept h.body fun g hg _ => Below.heap_setCell _ _ _ _ (h.oB g hg).2
  flds := by rw [hf]; exact row_kept h.flds fun g hg _ => Below.heap_setCell _ _ _ _ (h.oF g hg).2
  outs := by
    obtain ⟨xs, ok, h1, h2, h3⟩ := h.outs
    exact ⟨xs, ok, row_kept h1 fun g hg _ => Below.heap_setCell _ _ _ _ (h.oO g hg).2, h2.kept (fun b _ hob => Below.heap_setCell _ _ _ _ (fun e => h3 b hob (by simp only at e; rw [e]; exact h.rdM))) (fun _ _ x => x), h3⟩
  rdM := h.rdM
  oL := h.oL
  oB := h.oB
  oF := h.oF
  oO := h.oO
  lb := h.lb
  lf := h.lf
  lo := h.lo
  bf := h.bf
  bo := h.bo
  fo := h.fo
  low := fun b hb => by have := h.low b hb; simpa [World.setCell] using this
theorem RefO.mvSet (h : RefO w rd ms s out vo vl vf vb) (o : Nat) (v : Value) : Xv w (w.setCell ⟨rd, o, none⟩ v) ms ms :=
  ⟨(Chg.set w ⟨rd, o, none⟩ v).mono fun b _ e => by simp only at e; rw [e]; exact h.rdM, fun _ x => .inl x⟩
theorem RefIn.past {w1 : World} {v : Value} (h : RefIn w rd ms s out vo vl vf vb) (hv : ∀ b, v.ownBlock = some b → ms b ∧ b ≠ rd) (hgr : w.grownBy w1 v.ownBlock) : w1.heap[rd]? = some (.cells (s.cells rd vo vl vf vb) 43 (0, 0)) := by
  rw [hgr.block rd h.lt (fun e => (hv rd e.symm).2 rfl)]; exact h.box
/-- the box was laid anew -/
theorem RefO.reset (h : RefO w rd ms s out vo vl vf vb) (hw : w'.heap[rd]? = some (.cells (s.anew.cells rd vo (.slice none 0 0) (.slice none 0 0) (.slice none 0 0)) 43 (0, 0))) (hc : Chg w w' (fun b => b = rd)) :
    RefIn w' rd ms s.anew out vo (.slice none 0 0) (.slice none 0 0) (.slice none 0 0) where
  glob := h.glob.chg hc (fun b hb => by rw [hb]; exact (h.low rd h.rdM).1) h.size
  box := hw
  line := World.ownsRow_nil _ _ _ _
  body := World.ownsRow_nil _ _ _ _
  flds := World.ownsRow_nil _ _ _ _
  outs := by
    obtain ⟨xs, ok, h1, h2, h3⟩ := h.outs
    exact ⟨xs, ok, row_kept h1 fun g hg hl => hc.block g hl (h.oO g hg).2, h2.kept (fun b hl hob => hc.block b hl (fun e => h3 b hob (by rw [e]; exact h.rdM))) (fun _ _ x => x), h3⟩
  rdM := h.rdM
  oL := fun b hb => by cases hb
  oB := fun b hb => by cases hb
  oF := fun b hb => by cases hb
  oO := h.oO
  lb := Dj.nil _
  lf := Dj.nil _
  lo := Dj.nil _
  bf := Dj.nil _
  bo := Dj.nil _
  fo := Dj.nil _
  low := fun b hb => ⟨(h.low b hb).1, Nat.lt_of_lt_of_le (h.low b hb).2 hc.size⟩
/-- a byte behind the line -/
theorem RefIn.pushLine {g n cap : Nat} {wa w1 : World} {news : List Value} {s' : QS} (h : RefIn wa rd ms s out vo vl vf vb) (hown : w1.ownsRow 0 5 1 (.slice (some ⟨g, 0, none⟩) n cap) n (Lib.byteCells s.line ++ news)) (hgr : wa.grownBy w1 vl.ownBlock) (hat : vl.ownBlock = some g ∨ g = wa.heap.size) (hlt : g < w1.heap.size)
    (hs : (s.cells rd vo vl vf vb).setIfInBounds 4 (.slice (some ⟨g, 0, none⟩) n cap) = s'.cells rd vo (.slice (some ⟨g, 0, none⟩) n cap) vf vb) (hl : s'.line.length = n ∧ Lib.byteCells s'.line = Lib.byteCells s.line ++ news) (hb : s'.body = s.body) (hf : s'.fields = s.fields) :
    RefIn (w1.setCell ⟨rd, 4, none⟩ (.slice (some ⟨g, 0, none⟩) n cap)) rd (fun b => ms b ∨ b = g) s' out vo (.slice (some ⟨g, 0, none⟩) n cap) vf vb ∧ Xv wa (w1.setCell ⟨rd, 4, none⟩ (.slice (some ⟨g, 0, none⟩) n cap)) ms (fun b => ms b ∨ b = g) := by
  have hrv : vl.ownBlock ≠ some rd := fun e => (h.oL rd e).2 rfl
  have hgrd : g ≠ rd := by
    rcases hat with e | e
    · exact (h.oL g e).2
    · have := h.lt; omega
  have hgl : 8 ≤ g := by
    rcases hat with e | e
    · exact (h.low g (h.oL g e).1).1
    · have := h.size; omega
  have hc : Chg wa (w1.setCell ⟨rd, 4, none⟩ (.slice (some ⟨g, 0, none⟩) n cap)) (fun b => b = rd ∨ some b = vl.ownBlock) := ((Chg.grown hgr).mono (fun _ _ x => .inr x)).trans ((Chg.set _ _ _).mono (fun _ _ x => .inl x))
  have hcm : ∀ b, (b = rd ∨ some b = vl.ownBlock) → ms b := fun b hb => by
    rcases hb with e | e
    · rw [e]; exact h.rdM
    · exact (h.oL b e.symm).1
  have far : ∀ u : Value, (∀ b, u.ownBlock = some b → ms b ∧ b ≠ rd) → Dj vl u → ∀ k, u.ownBlock = some k → ¬ (k = rd ∨ some k = vl.ownBlock) := fun u hu hd k hk hb => by
    rcases hb with e | e
    · exact (hu k hk).2 e
    · exact hd k e.symm hk
  have hng : ∀ u : Value, (∀ b, u.ownBlock = some b → ms b ∧ b ≠ rd) → Dj vl u → u.ownBlock ≠ some g := fun u hu hd e => by
    rcases hat with e2 | e2
    · exact hd g e2 e
    · have := (h.low g (hu g e).1).2; omega
  have hbox1 : w1.heap[rd]? = some (.cells (s.cells rd vo vl vf vb) 43 (0, 0)) := by rw [hgr.block rd h.lt (fun e => hrv e.symm)]; exact h.box
  refine ⟨⟨⟨h.glob.chg hc (fun b hb => (h.low b (hcm b hb)).1) h.size, by rw [heap_set hbox1, hs], ?_, .inl h.rdM, fun b hb => ?_, fun b hb => ?_⟩, ?_, ?_, ?_, fun b hb => ?_, fun b hb => ?_, fun b hb => ?_, ?_, ?_, ?_, ?_, ?_, ?_⟩, hc.mono fun b _ hb => hcm b hb, fun b hb => ?_⟩
  · obtain ⟨xs, ok, h1, h2, h3⟩ := h.outs
    refine ⟨xs, fun b => ok b ∧ b < wa.heap.size, row_kept h1 fun k hk hl => hc.block k hl (far vo h.oO h.lo k hk), h2.kept (fun b hl hob => hc.block b hl (fun e => h3 b hob (hcm b e))) (fun b hl x => ⟨x, hl⟩), fun b hb hm => ?_⟩
    rcases hm with hm | hm
    · exact h3 b hb.1 hm
    · rcases hat with e | e
      · exact h3 b hb.1 (by rw [hm]; exact (h.oL g e).1)
      · have := hb.2; omega
  · exact ⟨.inl (h.oO b hb).1, (h.oO b hb).2⟩
  · rcases hb with hb | hb
    · exact ⟨(h.low b hb).1, Nat.lt_of_lt_of_le (h.low b hb).2 hc.size⟩
    · rw [hb]; exact ⟨hgl, by simpa [World.setCell] using hlt⟩
  · rw [hl.1, hl.2]; refine row_kept hown fun k hk _ => Below.heap_setCell _ _ _ _ ?_
    exact fun x => hgrd (by have := hk.trans (congrArg some x); simpa [Value.ownBlock] using this)
  · rw [hb]; exact row_kept h.body fun k hk hl => hc.block k hl (far vb h.oB h.lb k hk)
  · rw [hf]; exact row_kept h.flds fun k hk hl => hc.block k hl (far vf h.oF h.lf k hk)
  · injection hb with e; rw [← e]; exact ⟨.inr rfl, hgrd⟩
  · exact ⟨.inl (h.oB b hb).1, (h.oB b hb).2⟩
  · exact ⟨.inl (h.oF b hb).1, (h.oF b hb).2⟩
  · intro b hb; injection hb with e; rw [← e]; exact hng vb h.oB h.lb
  · intro b hb; injection hb with e; rw [← e]; exact hng vf h.oF h.lf
  · intro b hb; injection hb with e; rw [← e]; exact hng vo h.oO h.lo
  · exact h.bf
  · exact h.bo
  · exact h.fo
  · rcases hb with hb | hb
    · exact .inl hb
    · rcases hat with e | e
      · exact .inl (by rw [hb]; exact (h.oL g e).1)
      · exact .inr (by omega)
/-- a byte behind the body -/
theorem RefIn.pushBody {g n cap : Nat} {wa w1 : World} {news : List Value} {s' : QS} (h : RefIn wa rd ms s out vo vl vf vb) (hown : w1.ownsRow 0 5 1 (.slice (some ⟨g, 0, none⟩) n cap) n (Lib.byteCells s.body ++ news)) (hgr : wa.grownBy w1 vb.ownBlock) (hat : vb.ownBlock = some g ∨ g = wa.heap.size) (hlt : g < w1.heap.size)
    (hs : (s.cells rd vo vl vf vb).setIfInBounds 5 (.slice (some ⟨g, 0, none⟩) n cap) = s'.cells rd vo vl vf (.slice (some ⟨g, 0, none⟩) n cap)) (hb : s'.body.length = n ∧ Lib.byteCells s'.body = Lib.byteCells s.body ++ news) (hl : s'.line = s.line) (hf : s'.fields = s.fields) :
    RefIn (w1.setCell ⟨rd, 5, none⟩ (.slice (some ⟨g, 0, none⟩) n cap)) rd (fun b => ms b ∨ b = g) s' out vo vl vf (.slice (some ⟨g, 0, none⟩) n cap) ∧ Xv wa (w1.setCell ⟨rd, 5, none⟩ (.slice (some ⟨g, 0, none⟩) n cap)) ms (fun b => ms b ∨ b = g) := by
  have hrv : vb.ownBlock ≠ some rd := fun e => (h.oB rd e).2 rfl
  have hgrd : g ≠ rd := by
    rcases hat with e | e
    · exact (h.oB g e).2
    · have := h.lt; omega
  have hgl : 8 ≤ g := by
    rcases hat with e | e
    · exact (h.low g (h.oB g e).1).1
    · have := h.size; omega
  have hc : Chg wa (w1.setCell ⟨rd, 5, none⟩ (.slice (some ⟨g, 0, none⟩) n cap)) (fun b => b = rd ∨ some b = vb.ownBlock) := ((Chg.grown hgr).mono (fun _ _ x => .inr x)).trans ((Chg.set _ _ _).mono (fun _ _ x => .inl x))
  have hcm : ∀ b, (b = rd ∨ some b = vb.ownBlock) → ms b := fun b hb => by
    rcases hb with e | e
    · rw [e]; exact h.rdM
    · exact (h.oB b e.symm).1
  have far : ∀ u : Value, (∀ b, u.ownBlock = some b → ms b ∧ b ≠ rd) → Dj vb u → ∀ k, u.ownBlock = some k → ¬ (k = rd ∨ some k = vb.ownBlock) := fun u hu hd k hk hb => by
    rcases hb with e | e
    · exact (hu k hk).2 e
    · exact hd k e.symm hk
  have hng : ∀ u : Value, (∀ b, u.ownBlock = some b → ms b ∧ b ≠ rd) → Dj vb u → u.ownBlock ≠ some g := fun u hu hd e => by
    rcases hat with e2 | e2
    · exact hd g e2 e
    · have := (h.low g (hu g e).1).2; omega
  have hbox1 : w1.heap[rd]? = some (.cells (s.cells rd vo vl vf vb) 43 (0, 0)) := by rw [hgr.block rd h.lt (fun e => hrv e.symm)]; exact h.box
  refine ⟨⟨⟨h.glob.chg hc (fun b hb => (h.low b (hcm b hb)).1) h.size, by rw [heap_set hbox1, hs], ?_, .inl h.rdM, fun b hb => ?_, fun b hb => ?_⟩, ?_, ?_, ?_, fun b hb => ?_, fun b hb => ?_, fun b hb => ?_, ?_, ?_, ?_, ?_, ?_, ?_⟩, hc.mono fun b _ hb => hcm b hb, fun b hb => ?_⟩
  · obtain ⟨xs, ok, h1, h2, h3⟩ := h.outs
    refine ⟨xs, fun b => ok b ∧ b < wa.heap.size, row_kept h1 fun k hk hl => hc.block k hl (far vo h.oO h.bo k hk), h2.kept (fun b hl hob => hc.block b hl (fun e => h3 b hob (hcm b e))) (fun b hl x => ⟨x, hl⟩), fun b hb hm => ?_⟩
    rcases hm with hm | hm
    · exact h3 b hb.1 hm
    · rcases hat with e | e
      · exact h3 b hb.1 (by rw [hm]; exact (h.oB g e).1)
      · have := hb.2; omega
  · exact ⟨.inl (h.oO b hb).1, (h.oO b hb).2⟩
  · rcases hb with hb | hb
    · exact ⟨(h.low b hb).1, Nat.lt_of_lt_of_le (h.low b hb).2 hc.size⟩
    · rw [hb]; exact ⟨hgl, by simpa [World.setCell] using hlt⟩
  · rw [hl]; exact row_kept h.line fun k hk hl => hc.block k hl (far vl h.oL h.lb.symm k hk)
  · rw [hb.1, hb.2]; refine row_kept hown fun k hk _ => Below.heap_setCell _ _ _ _ ?_
    exact fun x => hgrd (by have := hk.trans (congrArg some x); simpa [Value.ownBlock] using this)
  · rw [hf]; exact row_kept h.flds fun k hk hl => hc.block k hl (far vf h.oF h.bf k hk)
  · exact ⟨.inl (h.oL b hb).1, (h.oL b hb).2⟩
  · injection hb with e; rw [← e]; exact ⟨.inr rfl, hgrd⟩
  · exact ⟨.inl (h.oF b hb).1, (h.oF b hb).2⟩
  · intro b hb e2; injection e2 with e; rw [← e] at hb; exact hng vl h.oL h.lb.symm hb
  · exact h.lf
  · exact h.lo
  · intro b hb; injection hb with e; rw [← e]; exact hng vf h.oF h.bf
  · intro b hb; injection hb with e; rw [← e]; exact hng vo h.oO h.bo
  · exact h.fo
  · rcases hb with hb | hb
    · exact .inl hb
    · rcases hat with e | e
      · exact .inl (by rw [hb]; exact (h.oB g e).1)
      · exact .inr (by omega)
/-- one more field -/
theorem RefIn.pushField {g n cap : Nat} {wa w1 : World} {news : List Value} {s' : QS} (h : RefIn wa rd ms s out vo vl vf vb) (hown : w1.ownsRow 0 58 2 (.slice (some ⟨g, 0, none⟩) n cap) n (pairCells s.fields ++ news)) (hgr : wa.grownBy w1 vf.ownBlock) (hat : vf.ownBlock = some g ∨ g = wa.heap.size) (hlt : g < w1.heap.size)
    (hs : (s.cells rd vo vl vf vb).setIfInBounds 10 (.slice (some ⟨g, 0, none⟩) n cap) = s'.cells rd vo vl (.slice (some ⟨g, 0, none⟩) n cap) vb) (hf : s'.fields.length = n ∧ pairCells s'.fields = pairCells s.fields ++ news) (hl : s'.line = s.line) (hb : s'.body = s.body) :
    RefIn (w1.setCell ⟨rd, 10, none⟩ (.slice (some ⟨g, 0, none⟩) n cap)) rd (fun b => ms b ∨ b = g) s' out vo vl (.slice (some ⟨g, 0, none⟩) n cap) vb ∧ Xv wa (w1.setCell ⟨rd, 10, none⟩ (.slice (some ⟨g, 0, none⟩) n cap)) ms (fun b => ms b ∨ b = g) := by
  have hrv : vf.ownBlock ≠ some rd := fun e => (h.oF rd e).2 rfl
  have hgrd : g ≠ rd := by
    rcases hat with e | e
    · exact (h.oF g e).2
    · have := h.lt; omega
  have hgl : 8 ≤ g := by
    rcases hat with e | e
    · exact (h.low g (h.oF g e).1).1
    · have := h.size; omega
  have hc : Chg wa (w1.setCell ⟨rd, 10, none⟩ (.slice (some ⟨g, 0, none⟩) n cap)) (fun b => b = rd ∨ some b = vf.ownBlock) := ((Chg.grown hgr).mono (fun _ _ x => .inr x)).trans ((Chg.set _ _ _).mono (fun _ _ x => .inl x))
  have hcm : ∀ b, (b = rd ∨ some b = vf.ownBlock) → ms b := fun b hb => by
    rcases hb with e | e
    · rw [e]; exact h.rdM
    · exact (h.oF b e.symm).1
  have far : ∀ u : Value, (∀ b, u.ownBlock = some b → ms b ∧ b ≠ rd) → Dj vf u → ∀ k, u.ownBlock = some k → ¬ (k = rd ∨ some k = vf.ownBlock) := fun u hu hd k hk hb => by
    rcases hb with e | e
    · exact (hu k hk).2 e
    · exact hd k e.symm hk
  have hng : ∀ u : Value, (∀ b, u.ownBlock = some b → ms b ∧ b ≠ rd) → Dj vf u → u.ownBlock ≠ some g := fun u hu hd e => by
    rcases hat with e2 | e2
    · exact hd g e2 e
    · have := (h.low g (hu g e).1).2; omega
  have hbox1 : w1.heap[rd]? = some (.cells (s.cells rd vo vl vf vb) 43 (0, 0)) := by rw [hgr.block rd h.lt (fun e => hrv e.symm)]; exact h.box
  refine ⟨⟨⟨h.glob.chg hc (fun b hb => (h.low b (hcm b hb)).1) h.size, by rw [heap_set hbox1, hs], ?_, .inl h.rdM, fun b hb => ?_, fun b hb => ?_⟩, ?_, ?_, ?_, fun b hb => ?_, fun b hb => ?_, fun b hb => ?_, ?_, ?_, ?_, ?_, ?_, ?_⟩, hc.mono fun b _ hb => hcm b hb, fun b hb => ?_⟩
  · obtain ⟨xs, ok, h1, h2, h3⟩ := h.outs
    refine ⟨xs, fun b => ok b ∧ b < wa.heap.size, row_kept h1 fun k hk hl => hc.block k hl (far vo h.oO h.fo k hk), h2.kept (fun b hl hob => hc.block b hl (fun e => h3 b hob (hcm b e))) (fun b hl x => ⟨x, hl⟩), fun b hb hm => ?_⟩
    rcases hm with hm | hm
    · exact h3 b hb.1 hm
    · rcases hat with e | e
      · exact h3 b hb.1 (by rw [hm]; exact (h.oF g e).1)
      · have := hb.2; omega
  · exact ⟨.inl (h.oO b hb).1, (h.oO b hb).2⟩
  · rcases hb with hb | hb
    · exact ⟨(h.low b hb).1, Nat.lt_of_lt_of_le (h.low b hb).2 hc.size⟩
    · rw [hb]; exact ⟨hgl, by simpa [World.setCell] using hlt⟩
  · rw [hl]; exact row_kept h.line fun k hk hl => hc.block k hl (far vl h.oL h.lf.symm k hk)
  · rw [hb]; exact row_kept h.body fun k hk hl => hc.block k hl (far vb h.oB h.bf.symm k hk)
  · rw [hf.1, hf.2]; refine row_kept hown fun k hk _ => Below.heap_setCell _ _ _ _ ?_
    exact fun x => hgrd (by have := hk.trans (congrArg some x); simpa [Value.ownBlock] using this)
  · exact ⟨.inl (h.oL b hb).1, (h.oL b hb).2⟩
  · exact ⟨.inl (h.oB b hb).1, (h.oB b hb).2⟩
  · injection hb with e; rw [← e]; exact ⟨.inr rfl, hgrd⟩
  · exact h.lb
  · intro b hb e2; injection e2 with e; rw [← e] at hb; exact hng vl h.oL h.lf.symm hb
  · exact h.lo
  · intro b hb e2; injection e2 with e; rw [← e] at hb; exact hng vb h.oB h.bf.symm hb
  · exact h.bo
  · intro b hb; injection hb with e; rw [← e]; exact hng vo h.oO h.fo
  · rcases hb with hb | hb
    · exact .inl hb
    · rcases hat with e | e
      · exact .inl (by rw [hb]; exact (h.oF g e).1)
      · exact .inr (by omega)
/-- a request behind those that are told -/
theorem RefIn.pushOut {g n cap : Nat} {wa w1 : World} {body : List UInt8} {cl : Bool} (h : RefIn wa rd ms s out vo vl vf vb) {xs : List Value} {ok : Nat → Prop} (h2 : ReqRows wa ok out xs) (h3 : ∀ b, ok b → ¬ ms b)
    (hown : w1.ownsRow 0 31 6 (.slice (some ⟨g, 0, none⟩) n cap) n (xs ++ [.string ⟨s.meth.toArray⟩, .string ⟨s.tgt.toArray⟩, .int .i64 s.minor, vf, .string ⟨body.toArray⟩, .bool cl])) (hn : n = out.length + 1) (hgr : wa.grownBy w1 vo.ownBlock) (hat : vo.ownBlock = some g ∨ g = wa.heap.size) (hlt : g < w1.heap.size) :
    RefO (w1.setCell ⟨rd, 15, none⟩ (.slice (some ⟨g, 0, none⟩) n cap)) rd (fun b => (ms b ∧ vf.ownBlock ≠ some b) ∨ b = g) s (out ++ [⟨s.meth, s.tgt, s.minor, s.fields, body, cl⟩]) (.slice (some ⟨g, 0, none⟩) n cap) vl vf vb ∧ Xv wa (w1.setCell ⟨rd, 15, none⟩ (.slice (some ⟨g, 0, none⟩) n cap)) ms (fun b => (ms b ∧ vf.ownBlock ≠ some b) ∨ b = g) := by
  have hrv : vo.ownBlock ≠ some rd := fun e => (h.oO rd e).2 rfl
  have hgrd : g ≠ rd := by
    rcases hat with e | e
    · exact (h.oO g e).2
    · have := h.lt; omega
  have hgl : 8 ≤ g := by
    rcases hat with e | e
    · exact (h.low g (h.oO g e).1).1
    · have := h.size; omega
  have hc : Chg wa (w1.setCell ⟨rd, 15, none⟩ (.slice (some ⟨g, 0, none⟩) n cap)) (fun b => b = rd ∨ some b = vo.ownBlock) := ((Chg.grown hgr).mono (fun _ _ x => .inr x)).trans ((Chg.set _ _ _).mono (fun _ _ x => .inl x))
  have hcm : ∀ b, (b = rd ∨ some b = vo.ownBlock) → ms b := fun b hb => by
    rcases hb with e | e
    · rw [e]; exact h.rdM
    · exact (h.oO b e.symm).1
  have hbox1 : w1.heap[rd]? = some (.cells (s.cells rd vo vl vf vb) 43 (0, 0)) := by rw [hgr.block rd h.lt (fun e => hrv e.symm)]; exact h.box
  have hfk : ∀ k, vf.ownBlock = some k → ¬ (k = rd ∨ some k = vo.ownBlock) := fun k hk hb => by
    rcases hb with e | e
    · exact (h.oF k hk).2 e
    · exact h.fo k hk e.symm
  have hfg : vf.ownBlock ≠ some g := fun e => by
    rcases hat with e2 | e2
    · exact h.fo g e e2
    · have := (h.low g (h.oF g e).1).2; omega
  refine ⟨⟨h.glob.chg hc (fun b hb => (h.low b (hcm b hb)).1) h.size, by rw [heap_set hbox1]; rfl, ⟨_, fun b => (ok b ∧ b < wa.heap.size) ∨ vf.ownBlock = some b, ?_, ReqRows.append (h2.kept (fun b hl hob => hc.block b hl (fun e => h3 b hob (hcm b e))) (fun b hl x => .inl ⟨x, hl⟩)) ⟨vf, [], rfl, row_kept h.flds fun k hk hl => hc.block k hl (hfk k hk), fun b hb => .inr hb, rfl⟩, ?_⟩, .inl ⟨h.rdM, fun e => (h.oF rd e).2 rfl⟩, ?_, ?_⟩, hc.mono fun b _ hb => hcm b hb, ?_⟩
  · rw [show (out ++ [(⟨s.meth, s.tgt, s.minor, s.fields, body, cl⟩ : ReqV)]).length = n from by simp [hn]]
    refine row_kept hown fun k hk _ => Below.heap_setCell _ _ _ _ ?_
    exact fun x => hgrd (by have := hk.trans (congrArg some x); simpa [Value.ownBlock] using this)
  · intro b hb hm
    rcases hb with hb | hb
    · rcases hm with hm | hm
      · exact h3 b hb.1 hm.1
      · rcases hat with e | e
        · exact h3 b hb.1 (by rw [hm]; exact (h.oO g e).1)
        · have := hb.2; omega
    · rcases hm with hm | hm
      · exact hm.2 hb
      · exact hfg (by rw [← hm]; exact hb)
  · intro b hb
    injection hb with e
    rw [← e]
    exact ⟨.inr rfl, hgrd⟩
  · intro b hb
    rcases hb with hb | hb
    · exact ⟨(h.low b hb.1).1, Nat.lt_of_lt_of_le (h.low b hb.1).2 hc.size⟩
    · rw [hb]; exact ⟨hgl, by simpa [World.setCell] using hlt⟩
  · intro b hb
    rcases hb with hb | hb
    · exact .inl hb.1
    · rcases hat with e | e
      · exact .inl (by rw [hb]; exact (h.oO g e).1)
      · exact .inr (by omega)
end

/-- line = nil -/
theorem RefIn.nilLine {w : World} {rd : Nat} {ms : Nat → Prop} {s : QS} {out : List ReqV} {vo vl vf vb : Value} (h : RefIn w rd ms s out vo vl vf vb) : RefIn (w.setCell ⟨rd, 4, none⟩ (.slice none 0 0)) rd ms { s with line := [] } out vo (.slice none 0 0) vf vb where
  glob := h.glob.chg (Chg.set w ⟨rd, 4, none⟩ (.slice none 0 0)) (fun b hb => by simp only at hb; rw [hb]; exact (h.low rd h.rdM).1) h.size
  box := by rw [heap_set h.box]; rfl
  line := World.ownsRow_nil _ _ _ _
  body := row_kept h.body fun g hg _ => Below.heap_setCell _ _ _ _ (h.oB g hg).2
  flds := row_kept h.flds fun g hg _ => Below.heap_setCell _ _ _ _ (h.oF g hg).2
  outs := by
    obtain ⟨xs, ok, h1, h2, h3⟩ := h.outs
    exact ⟨xs, ok, row_kept h1 fun g hg _ => Below.heap_setCell _ _ _ _ (h.oO g hg).2, h2.kept (fun b _ hob => Below.heap_setCell _ _ _ _ (fun e => h3 b hob (by simp only at e; rw [e]; exact h.rdM))) (fun _ _ x => x), h3⟩
  rdM := h.rdM
  oL := fun b hb => by cases hb
  oB := h.oB
  oF := h.oF
  oO := h.oO
  lb := Dj.nil _
  lf := Dj.nil _
  lo := Dj.nil _
  bf := h.bf
  bo := h.bo
  fo := h.fo
  low := fun b hb => by have := h.low b hb; simpa [World.setCell] using this

/-- what a method leaves -/
def RfPost (w : World) (rd : Nat) (ms : Nat → Prop) (s' : QS) (out' : List ReqV) (w' : World) : Prop := ∃ ms', RefAt w' rd ms' s' out' ∧ Xv w w' ms ms'

end Go.Proofs.YtdilmefeofdkmaaGreatDoor
