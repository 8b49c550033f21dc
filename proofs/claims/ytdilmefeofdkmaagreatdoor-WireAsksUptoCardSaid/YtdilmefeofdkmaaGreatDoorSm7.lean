/-
  SEVERAL SMALL TEXTS IN ONE.
-/
import Derived.Test.YtdilmefeofdkmaaGreatDoorSm0
import Derived.Lib.AppendStr
import Derived.Test.YtdilmefeofdkmaaGreatDoorSm4
import Derived.Shelf.Strings.Builder1
/-
  append of a text onto a row of bytes of the call's own: and where the new row lies.
-/
namespace Go.Proofs.YtdilmefeofdkmaaGreatDoor
open Go.RowKit Go.Lib

section
variable {P : Program} (w : World)

theorem run_append_string_at (base : Nat) (t u ty e : TypeId) (i : TypeInfo) (ht : P.underlying t = some (.slice e)) (hu : P.underlying u = some .string) (hi : P.info? e = some i) (hz : i.zero = some (.int .u8 0))
    (hsize : i.size = 1) (hby : i.bytes = 1)
    (v : Value) (n : Nat) (xs : List Value) (hown : w.ownsRow base e 1 v n xs) (s : ByteArray)
    (h63 : n + s.size ≤ maxLen) (hbytes : n + s.size ≤ 140737488355328) (hbase : base ≤ w.heap.size) :
    ∃ v' w', (Builtin.append_ #[t, u] ty #[v, .string s]).run P w = .ok v' w' ∧ w'.ownsRow base e 1 v' (n + s.size) (xs ++ strCells s) ∧ w.grownBy w' v.ownBlock ∧
      (v'.ownBlock = v.ownBlock ∨ ∀ g, v'.ownBlock = some g → w.heap.size ≤ g) := by
  obtain ⟨v', w', hr, h2, h3, _⟩ := run_append_own_string (P := P) w base t u ty e i ht hu hi hz hsize hby v n xs hown s h63 hbytes hbase
  refine ⟨v', w', hr, h2, h3, ?_⟩
  rcases hown.2 with ⟨rfl, rfl⟩ | ⟨g, cap, cur, rfl, hbg, hg, hnc, hcm, hcs, _⟩
  · have hx : xs = [] := List.eq_nil_of_length_eq_zero (by simpa using hown.1)
    subst hx
    obtain ⟨v2, w2, hr2, k2, _, _⟩ := run_append_own_string (P := P) w w.heap.size t u ty e i ht hu hi hz hsize hby (.slice none 0 0) 0 [] (World.ownsRow_nil _ _ _ _) s h63 hbytes (Nat.le_refl _)
    rw [hr] at hr2
    injection hr2 with e1 e2
    subst e1 e2
    exact .inr (fun g hg => (k2.lt g hg).1)
  · by_cases hroom : n + s.size ≤ cap
    · have hr2 := run_append_room_string (P := P) w t u ty e i ht hu hi hsize g n cap cur hg s hroom (by omega)
      rw [hr] at hr2
      injection hr2 with e1 e2
      exact .inl (by rw [e1]; rfl)
    · have hmx : n + s.size ≤ 9223372036854775807 := by simp only [maxLen] at h63; omega
      have hr2 := run_append_grow_string (P := P) w t u ty e i (.int .u8 0) ht hu hi hz ⟨g, 0, none⟩ n cap xs (by rw [hsize]; exact hown.1) (hown.cells (g := g) rfl) s (by omega) (by omega) (by rw [hby]; exact growslice_fits (by omega) (by omega))
      rw [hr] at hr2
      injection hr2 with e1 e2
      exact .inr (fun g' hg' => by rw [e1] at hg'; simp [Value.ownBlock] at hg'; omega)

theorem wpList_append_string_at {ops : Array Oper} {rest : List Oper} {o : Oper} {a : Act} {Q : Exit → Act → World → Prop} (hgd : o.guard = none) (sl x : Operand) (t u : TypeId)
    (ho : o.op = .call { callee := .builtin .append, args := #[sl, x], argTypes := #[t, u] })
    (base : Nat) (e : TypeId) (i : TypeInfo) (ht : P.underlying t = some (.slice e)) (hu : P.underlying u = some .string) (hi : P.info? e = some i) (hz : i.zero = some (.int .u8 0))
    (hsize : i.size = 1) (hby : i.bytes = 1)
    (v : Value) (n : Nat) (xs : List Value) (hs : a.eval sl = v) (hown : w.ownsRow base e 1 v n xs) (s : ByteArray) (hx : a.eval x = .string s)
    (h63 : n + s.size ≤ maxLen) (hbytes : n + s.size ≤ 140737488355328) (hbase : base ≤ w.heap.size)
    (h : ∀ v' w', w'.ownsRow base e 1 v' (n + s.size) (xs ++ strCells s) → w.grownBy w' v.ownBlock → (v'.ownBlock = v.ownBlock ∨ ∀ g, v'.ownBlock = some g → w.heap.size ≤ g) → wpList P ops Q rest (a.put o.dst v') w') : wpList P ops Q (o :: rest) a w := by
  refine wpList_plain hgd fun K hK => ?_
  obtain ⟨v', w', hr, h2, h3, h4⟩ := run_append_string_at (P := P) w base t u o.type e i ht hu hi hz hsize hby v n xs hown s h63 hbytes hbase
  unfold Oper.wp execOp
  simp only [ho, resolve, invoke, builtin, Sem.run_bind, Sem.run_pure, Result.andThen_ok, List.map_toArray, List.map_cons, List.map_nil, hs, hx, hr]
  exact hK _ _ (h v' w' h2 h3 h4)

end
end Go.Proofs.YtdilmefeofdkmaaGreatDoor

/-
  THE WRITER of records: strings.Builder within a struct: copyCheck, WriteString, String.
-/
namespace Go.Proofs.YtdilmefeofdkmaaGreatDoor
open Go.RowKit

/-- a writer that has written l; v its buffer; its own rows lie from base on -/
structure WrAt (w : World) (base b : Nat) (l : List UInt8) (v : Value) : Prop where
  box : ∃ ad, w.heap[b]? = some (.cells #[.pointer ad, v] 70 (0, 0)) ∧ (ad = none ∨ ad = some ⟨b, 0, none⟩)
  own : w.ownsRow base 5 1 v l.length (Lib.byteCells l)
  low : b < base
  le : base ≤ w.heap.size

theorem WrAt.kept {w w' : World} {base b : Nat} {l : List UInt8} {v : Value} {M : Nat → Prop} (h : WrAt w base b l v) (hc : Chg w w' M) (hb : ¬ M b) (hm : ∀ k, v.ownBlock = some k → ¬ M k) : WrAt w' base b l v := by
  obtain ⟨ad, h1, h2⟩ := h.box
  refine ⟨⟨ad, (hc.block b (Array.getElem?_eq_some_iff.1 h1).1 hb).trans h1, h2⟩, ⟨h.own.1, ?_⟩, h.low, Nat.le_trans h.le hc.size⟩
  rcases h.own.2 with h3 | ⟨g, cap, cur, hv, hg, hh, r⟩
  · exact .inl h3
  · exact .inr ⟨g, cap, cur, hv, hg, (hc.block g (Array.getElem?_eq_some_iff.1 hh).1 (hm g (by rw [hv]; rfl))).trans hh, r⟩
theorem WrAt.later {w w' : World} {base b : Nat} {l : List UInt8} {v : Value} (h : WrAt w base b l v) (hb : Below w.heap.size w w') : WrAt w' base b l v :=
  h.kept (M := fun _ => False) (Chg.of_below hb) (fun x => x) (fun _ _ x => x)
theorem WrAt.new (w : World) (base : Nat) (hb : base = w.heap.size + 1) : WrAt (w.alloc (.cells #[.pointer none, .slice none 0 0] 70)) base w.heap.size [] (.slice none 0 0) :=
  ⟨⟨none, heap_alloc_new _ _, .inl rfl⟩, World.ownsRow_nil _ _ _ _, by omega, by simp; omega⟩

/-- what a writing leaves as it was -/
def Wrote (w w' : World) (b : Nat) (v v' : Value) : Prop := Chg w w' (fun k => k = b ∨ some k = v.ownBlock) ∧ (v'.ownBlock = v.ownBlock ∨ ∀ g, v'.ownBlock = some g → w.heap.size ≤ g)
theorem Wrote.refl (w : World) (b : Nat) (v : Value) : Wrote w w b v v := ⟨Chg.refl _ _, .inl rfl⟩
theorem Wrote.trans {w1 w2 w3 : World} {b : Nat} {v1 v2 v3 : Value} (h : Wrote w1 w2 b v1 v2) (k : Wrote w2 w3 b v2 v3) : Wrote w1 w3 b v1 v3 := by
  refine ⟨⟨k.1.os.trans h.1.os, k.1.tape.trans h.1.tape, k.1.output.trans h.1.output, Nat.le_trans h.1.size k.1.size, fun i hi hm => (k.1.block i (Nat.lt_of_lt_of_le hi h.1.size) (fun e => hm ?_)).trans (h.1.block i hi hm)⟩, ?_⟩
  · rcases e with e | e
    · exact .inl e
    · rcases h.2 with h2 | h2
      · rw [h2] at e; exact .inr e
      · have := h2 i e.symm; omega
  · rcases k.2 with k2 | k2
    · rcases h.2 with h2 | h2
      · exact .inl (k2.trans h2)
      · exact .inr (fun g hg => h2 g (k2 ▸ hg))
    · exact .inr (fun g hg => Nat.le_trans h.1.size (k2 g hg))
theorem Wrote.later {w1 w2 w3 : World} {b : Nat} {v1 v2 : Value} (h : Wrote w1 w2 b v1 v2) (k : Below w2.heap.size w2 w3) : Wrote w1 w3 b v1 v2 :=
  h.trans ⟨Chg.of_below k, .inl rfl⟩
theorem Wrote.ahead {w1 w2 w3 : World} {b : Nat} {v1 v2 : Value} (k : Below w1.heap.size w1 w2) (h : Wrote w2 w3 b v1 v2) : Wrote w1 w3 b v1 v2 :=
  Wrote.trans ⟨Chg.of_below k, .inl rfl⟩ h
/-- what lies below the writer stands -/
theorem Wrote.below {w w' : World} {base b : Nat} {l : List UInt8} {v v' : Value} (h : Wrote w w' b v v') (hw : WrAt w base b l v) : Below b w w' :=
  h.1.below (by have := hw.low; have := hw.le; omega) (fun k hk => by
    rcases hk with e | e
    · omega
    · have := (hw.own.lt k e.symm).1; have := hw.low; omega)
theorem WrAt.lt {w : World} {base b : Nat} {l : List UInt8} {v : Value} (h : WrAt w base b l v) : b < w.heap.size := by have := h.low; have := h.le; omega
/-- a cell that is neither the writer's nor of its rows -/
theorem Wrote.cell {w w' : World} {b : Nat} {v v' : Value} (h : Wrote w w' b v v') {k o : Nat} {u : Value} (hc : w.cell? ⟨k, o, none⟩ = some u) (h1 : k ≠ b) (h2 : v.ownBlock ≠ some k) : w'.cell? ⟨k, o, none⟩ = some u := by
  have hlt := World.block_lt_of_cell? w _ hc
  rw [World.cell?_of_block (w := w) (h.1.block k hlt (fun e => e.elim h1 (fun e => h2 e.symm)))]
  exact hc

theorem info_byte_wr : ∃ i, Tryz.prog.info? 5 = some i ∧ i.zero = some (.int .u8 0) ∧ i.size = 1 ∧ i.bytes = 1 :=
  info_parts (show (Tryz.prog.info? 5).map (fun i => (i.zero, i.size, i.bytes)) = some (some (.int .u8 0), 1, 1) by kernel_rfl)

set_option maxHeartbeats 1000000 in
theorem info_builder : ∃ j, Tryz.prog.info? 70 = some j ∧ j.size = 2 := by
  have h : (Tryz.prog.info? 70).map (·.size) = some 2 := by kernel_rfl
  obtain ⟨j, hj, hs⟩ := Option.map_eq_some_iff.1 h
  exact ⟨j, hj, hs⟩

set_option maxHeartbeats 1000000 in
set_option maxRecDepth 100000 in
theorem copyCheck_any (base b : Nat) (l : List UInt8) (v : Value) (w : World) (h : WrAt w base b l v) :
    Calls Tryz.prog 60 #[.pointer (some ⟨b, 0, none⟩)] w fun e w' => e = .returned (.tuple #[]) ∧ w'.heap[b]? = some (.cells #[.pointer (some ⟨b, 0, none⟩), v] 70 (0, 0)) ∧ Chg w w' (fun k => k = b) := by
  obtain ⟨ad, hb, hor⟩ := h.box
  obtain ⟨j, hj, hjs⟩ := info_builder
  have q0 : w.cell? ⟨b, 0, none⟩ = some (.pointer ad) := cell_of_heap hb
  have f0 : w.frozen? ⟨b, 0, none⟩ = false := free_of_heap hb
  have hsh : w.shape? b = some (70, 2) := by simp [World.shape?, hb]
  have HB := Lib.hid hb
  have HSH := Lib.hid hsh
  clear hb h hsh
  rcases hor with rfl | rfl
  · go_enter Tryz.func60, Tryz.ntmps60
    go_wp2
    rw [Lib.run_to_unsafe w ⟨b, 0, none⟩ Tryz.underlying68 Tryz.underlying104 hj (by rw [hjs]; decide) HSH.out (Nat.zero_lt_succ 1)]
    simp only [Result.andThen]
    rw [Oper.upon_value]
    go_wp2
    rw [run_callFunc_extern Tryz.func86 (by kernel_rfl) (by kernel_rfl) (by kernel_rfl) (e := Extern.AbiNoEscape.same) (by kernel_rfl)]
    rw [Lib.run_noEscape]
    simp only [Result.andThen]
    rw [Oper.upon_value]
    go_wp2
    rw [Lib.run_from_unsafe w ⟨b, 0, none⟩ Tryz.underlying104 Tryz.underlying68 hj HSH.out (by kernel_rfl)]
    simp only [Result.andThen]
    rw [Oper.upon_value]
    go_wp2
    go_end0
    refine ⟨rfl, ?_, Chg.set _ _ _⟩
    rw [heap_set HB.out]; rfl
  · go_enter Tryz.func60, Tryz.ntmps60
    go_wp2
    rw [Lib.run_neq_ptr_same w _ Tryz.underlying68 hj]
    go_wp2
    go_end0
    exact ⟨rfl, HB.out, Chg.refl _ _⟩

set_option maxHeartbeats 2000000 in
set_option maxRecDepth 100000 in
theorem writeString_any (base b : Nat) (l s : List UInt8) (v : Value) (w : World) (h : WrAt w base b l v) (hl : l.length + s.length ≤ 140737488355328) :
    Calls Tryz.prog 36 #[.pointer (some ⟨b, 0, none⟩), .string ⟨s.toArray⟩] w fun e w' => e = .returned (.tuple #[.int .i64 s.length, .nilIface]) ∧ ∃ v', WrAt w' base b (l ++ s) v' ∧ Wrote w w' b v v' := by
  obtain ⟨i0, hi, hz0, hz1, hz2⟩ := info_byte_wr
  have HC := Lib.hid (copyCheck_any base b l v w h)
  have HW := Lib.hid h
  have hss : (⟨s.toArray⟩ : ByteArray).size = s.length := by simp [ByteArray.size]
  have HSS := Lib.hid hss
  clear h hss
  go_enter Tryz.func36, Tryz.ntmps36
  go_wp2_with fail
  refine HC.out.mono ?_
  rintro e w1 ⟨rfl, hb1, hc1⟩
  have W1 : Hid (w1.ownsRow base 5 1 v l.length (Lib.byteCells l)) := by
    refine ⟨HW.out.own.1, ?_⟩
    rcases HW.out.own.2 with h3 | ⟨g, cap, cur, hv, hg, hh, r⟩
    · exact .inl h3
    · exact .inr ⟨g, cap, cur, hv, hg, (hc1.block g (Array.getElem?_eq_some_iff.1 hh).1 (by have := HW.out.low; omega)).trans hh, r⟩
  have hs1 := hc1.size
  have hle := HW.out.le
  have hlt := HW.out.lt
  have HB1 := Lib.hid hb1
  have HC1 := Lib.hid hc1
  have c0 : w1.cell? ⟨b, 0, none⟩ = some (.pointer (some ⟨b, 0, none⟩)) := cell_of_heap hb1
  have c1 : w1.cell? ⟨b, 1, none⟩ = some v := cell_of_heap hb1
  have hvb : Hid (v.ownBlock ≠ some b) := fun e => by have := (HW.out.own.lt b e).1; have := HW.out.low; omega
  clear hb1 hc1
  go_wp2_with (at_builtin; refine wpList_append_string_at _ rfl _ _ 41 9 rfl base 5 i0 Tryz.underlying41 Tryz.underlying9 hi hz0 hz1 hz2 _ _ _ rfl W1.out ⟨s.toArray⟩ rfl ?c3 ?c4 ?c5 ?_)
  case c3 => rw [HSS.out]; unfold maxLen; omega
  case c4 => rw [HSS.out]; omega
  case c5 => omega
  intro v' w2 hown' hgrow hat
  have hown' : w2.ownsRow base 5 1 v' (l ++ s).length (Lib.byteCells (l ++ s)) := by
    have e : Lib.byteCells (l ++ s) = Lib.byteCells l ++ Lib.strCells ⟨s.toArray⟩ := by simp [Lib.byteCells, Lib.strCells]
    rw [e, List.length_append]; exact hown'
  have hb2 : w2.heap[b]? = some (.cells #[.pointer (some ⟨b, 0, none⟩), v] 70 (0, 0)) := (hgrow.block b (by omega) (fun e => hvb.out e.symm)).trans HB1.out
  have d0 : w2.cell? ⟨b, 0, none⟩ = some (.pointer (some ⟨b, 0, none⟩)) := cell_of_heap hb2
  have d1 : w2.cell? ⟨b, 1, none⟩ = some v := cell_of_heap hb2
  have e1 : w2.frozen? ⟨b, 1, none⟩ = false := free_of_heap hb2
  have HB2 := Lib.hid hb2
  have HG := Lib.hid hgrow
  have HO := Lib.hid hown'
  have HAT := Lib.hid hat
  have hv'1 : v'.oneCell' = true := by
    rcases hown'.2 with ⟨rfl, _⟩ | ⟨g, cap, cur, rfl, _⟩ <;> rfl
  obtain ⟨a', n', k', rfl⟩ : ∃ a n k, v' = .slice a n k := by
    rcases hown'.2 with ⟨rfl, _⟩ | ⟨g, cap, cur, rfl, _⟩ <;> exact ⟨_, _, _, rfl⟩
  clear hb2 hgrow hown' hv'1 hat c0 c1
  go_wp2
  go_ret2
  refine ⟨?_, .slice a' n' k', ⟨⟨some ⟨b, 0, none⟩, by rw [heap_set HB2.out]; rfl, .inr rfl⟩, ⟨HO.out.1, ?_⟩, HW.out.low, ?_⟩, ⟨?_, HAT.out.imp (fun h => h) (fun h g hg => Nat.le_trans hs1 (h g hg))⟩⟩
  · first | rfl | (simp [ByteArray.size])
  · rcases HO.out.2 with h3 | ⟨g, cap, cur, hv, hg, hh, r⟩
    · exact .inl h3
    · exact .inr ⟨g, cap, cur, hv, hg, by rw [Below.heap_setCell _ _ _ _ (by have := HW.out.low; simp only; omega)]; exact hh, r⟩
  · have := HG.out.size; simp only [World.setCell, Array.size_modify]; omega
  · exact ((HC1.out.mono (fun _ _ h => .inl h)).trans ((Chg.grown HG.out).mono (fun _ _ h => .inr h))).trans ((Chg.set _ _ _).mono (fun _ _ h => .inl h))

set_option maxHeartbeats 2000000 in
set_option maxRecDepth 100000 in
/-- the text that was written -/
theorem string_any (base b : Nat) (l : List UInt8) (v : Value) (w : World) (h : WrAt w base b l v) (h0 : l ≠ []) :
    Calls Tryz.prog 43 #[.pointer (some ⟨b, 0, none⟩)] w fun e w' => e = .returned (.string ⟨l.toArray⟩) ∧ Below base w w' := by
  obtain ⟨ad, hb, _⟩ := h.box
  have hl0 : l.length ≠ 0 := by simpa using h0
  obtain ⟨g, cap, cur, rfl, hbg, hg, hnc, hcm, hcs, htake⟩ : ∃ g cap cur, v = .slice (some ⟨g, 0, none⟩) l.length cap ∧ base ≤ g ∧ w.heap[g]? = some (.cells cur 5 (0, 0)) ∧ l.length ≤ cap ∧ cap ≤ maxLen ∧ cur.size = cap * 1 ∧ cur.toList.take (l.length * 1) = Lib.byteCells l := by
    rcases h.own.2 with ⟨_, hz⟩ | ⟨g, cap, cur, hv, r⟩
    · exact absurd hz hl0
    · exact ⟨g, cap, cur, hv, r⟩
  have c1 : w.drew.cell? ⟨b, 1, none⟩ = some (.slice (some ⟨g, 0, none⟩) l.length cap) := by
    have : w.drew.heap[b]? = some (.cells #[.pointer ad, .slice (some ⟨g, 0, none⟩) l.length cap] 70 (0, 0)) := hb
    rw [cell_of_heap this]; rfl
  have hSD : (Builtin.unsafeSliceData_ #[41] 98 #[.slice (some ⟨g, 0, none⟩) l.length cap]).run Tryz.prog w.drew = .ok (.pointer (some ⟨g, 0, none⟩)) w.drew :=
    Lib.run_unsafeSliceData_row _ _ _ _ _ _ (by omega)
  have hUS : (Builtin.unsafeString_ #[98, 3] 9 #[.pointer (some ⟨g, 0, none⟩), .int .i64 l.length]).run Tryz.prog w.drew = .ok (.string ⟨l.toArray⟩) (w.drew.freeze ⟨g, 0, none⟩ l.length) := by
    refine Lib.run_unsafeString_row w.drew 98 3 9 5 Tryz.underlying98 (by kernel_rfl) g cur.size (by have hg' : w.drew.heap[g]? = some (.cells cur 5 (0, 0)) := hg; simp [World.shape?, hg']) l h0 (by omega) (by unfold maxLen at hcm; omega) ?_
    intro j x hx
    have := h.own.cells (g := g) rfl j (.int .u8 x.toNat) (by simp [Lib.byteCells, hx])
    exact this
  clear h hb hg htake hnc hcm hcs
  go_enter Tryz.func43, Tryz.ntmps43
  go_wp2
  go_region
  all_goals (go_wp2; go_ret; exact ⟨rfl, Lib.below_freeze (Below.drew (Below.refl base w)) (p := ⟨g, 0, none⟩) hbg _⟩)

end Go.Proofs.YtdilmefeofdkmaaGreatDoor

/-
  WIRE: what an error, a status is called. (Printed by wip/gen/wians.py R.)
-/
namespace Go.Proofs.YtdilmefeofdkmaaGreatDoor
open Go.RowKit

def reasonL (n : Int) : List UInt8 :=
  if n = 200 then [79, 75] else
  if n = 204 then [78, 111, 32, 67, 111, 110, 116, 101, 110, 116] else
  if n = 206 then [80, 97, 114, 116, 105, 97, 108, 32, 67, 111, 110, 116, 101, 110, 116] else
  if n = 400 then [66, 97, 100, 32, 82, 101, 113, 117, 101, 115, 116] else
  if n = 403 then [70, 111, 114, 98, 105, 100, 100, 101, 110] else
  if n = 404 then [78, 111, 116, 32, 70, 111, 117, 110, 100] else
  if n = 405 then [77, 101, 116, 104, 111, 100, 32, 78, 111, 116, 32, 65, 108, 108, 111, 119, 101, 100] else
  if n = 409 then [67, 111, 110, 102, 108, 105, 99, 116] else
  if n = 411 then [76, 101, 110, 103, 116, 104, 32, 82, 101, 113, 117, 105, 114, 101, 100] else
  if n = 413 then [67, 111, 110, 116, 101, 110, 116, 32, 84, 111, 111, 32, 76, 97, 114, 103, 101] else
  if n = 414 then [85, 82, 73, 32, 84, 111, 111, 32, 76, 111, 110, 103] else
  if n = 416 then [82, 97, 110, 103, 101, 32, 78, 111, 116, 32, 83, 97, 116, 105, 115, 102, 105, 97, 98, 108, 101] else
  if n = 431 then [82, 101, 113, 117, 101, 115, 116, 32, 72, 101, 97, 100, 101, 114, 32, 70, 105, 101, 108, 100, 115, 32, 84, 111, 111, 32, 76, 97, 114, 103, 101] else
  if n = 500 then [73, 110, 116, 101, 114, 110, 97, 108, 32, 83, 101, 114, 118, 101, 114, 32, 69, 114, 114, 111, 114] else
  if n = 501 then [78, 111, 116, 32, 73, 109, 112, 108, 101, 109, 101, 110, 116, 101, 100] else
  if n = 503 then [83, 101, 114, 118, 105, 99, 101, 32, 85, 110, 97, 118, 97, 105, 108, 97, 98, 108, 101] else
  if n = 505 then [72, 84, 84, 80, 32, 86, 101, 114, 115, 105, 111, 110, 32, 78, 111, 116, 32, 83, 117, 112, 112, 111, 114, 116, 101, 100] else
  if n = 507 then [73, 110, 115, 117, 102, 102, 105, 99, 105, 101, 110, 116, 32, 83, 116, 111, 114, 97, 103, 101] else
  []
def statusL (e : Int) : Int :=
  if e = 0 then 200 else
  if e = 60 ∨ e = 61 ∨ e = 62 ∨ e = 63 ∨ e = 64 ∨ e = 72 ∨ e = 76 ∨ e = 80 ∨ e = 84 ∨ e = 86 ∨ e = 87 ∨ e = 88 ∨ e = 89 ∨ e = 90 ∨ e = 93 ∨ e = 98 then 400 else
  if e = 71 ∨ e = 73 ∨ e = 74 ∨ e = 75 then 403 else
  if e = 77 ∨ e = 81 ∨ e = 82 ∨ e = 85 ∨ e = 91 ∨ e = 92 then 404 else
  if e = 83 then 405 else
  if e = 78 ∨ e = 79 then 409 else
  if e = 65 then 413 else
  if e = 66 then 414 else
  if e = 97 then 416 else
  if e = 67 then 431 else
  if e = 68 ∨ e = 69 ∨ e = 94 then 501 else
  if e = 96 then 503 else
  if e = 70 then 505 else
  if e = 95 then 507 else
  500

set_option maxHeartbeats 8000000 in
set_option maxRecDepth 100000 in
theorem reason_any (n : Int) (w : World) : Calls Tryz.prog 28 #[.int .i64 n] w fun e w' => e = .returned (.string ⟨(reasonL n).toArray⟩) ∧ w' = w := by
  by_cases h0 : n = 200
  · subst h0
    go_enter Tryz.func28, Tryz.ntmps28
    go_wp2
    go_ret
    exact ⟨rfl, rfl⟩
  by_cases h1 : n = 204
  · subst h1
    clear h0
    go_enter Tryz.func28, Tryz.ntmps28
    go_wp2
    go_ret
    exact ⟨rfl, rfl⟩
  by_cases h2 : n = 206
  · subst h2
    clear h0 h1
    go_enter Tryz.func28, Tryz.ntmps28
    go_wp2
    go_ret
    exact ⟨rfl, rfl⟩
  by_cases h3 : n = 400
  · subst h3
    clear h0 h1 h2
    go_enter Tryz.func28, Tryz.ntmps28
    go_wp2
    go_ret
    exact ⟨rfl, rfl⟩
  by_cases h4 : n = 403
  · subst h4
    clear h0 h1 h2 h3
    go_enter Tryz.func28, Tryz.ntmps28
    go_wp2
    go_ret
    exact ⟨rfl, rfl⟩
  by_cases h5 : n = 404
  · subst h5
    clear h0 h1 h2 h3 h4
    go_enter Tryz.func28, Tryz.ntmps28
    go_wp2
    go_ret
    exact ⟨rfl, rfl⟩
  by_cases h6 : n = 405
  · subst h6
    clear h0 h1 h2 h3 h4 h5
    go_enter Tryz.func28, Tryz.ntmps28
    go_wp2
    go_ret
    exact ⟨rfl, rfl⟩
  by_cases h7 : n = 409
  · subst h7
    clear h0 h1 h2 h3 h4 h5 h6
    go_enter Tryz.func28, Tryz.ntmps28
    go_wp2
    go_ret
    exact ⟨rfl, rfl⟩
  by_cases h8 : n = 411
  · subst h8
    clear h0 h1 h2 h3 h4 h5 h6 h7
    go_enter Tryz.func28, Tryz.ntmps28
    go_wp2
    go_ret
    exact ⟨rfl, rfl⟩
  by_cases h9 : n = 413
  · subst h9
    clear h0 h1 h2 h3 h4 h5 h6 h7 h8
    go_enter Tryz.func28, Tryz.ntmps28
    go_wp2
    go_ret
    exact ⟨rfl, rfl⟩
  by_cases h10 : n = 414
  · subst h10
    clear h0 h1 h2 h3 h4 h5 h6 h7 h8 h9
    go_enter Tryz.func28, Tryz.ntmps28
    go_wp2
    go_ret
    exact ⟨rfl, rfl⟩
  by_cases h11 : n = 416
  · subst h11
    clear h0 h1 h2 h3 h4 h5 h6 h7 h8 h9 h10
    go_enter Tryz.func28, Tryz.ntmps28
    go_wp2
    go_ret
    exact ⟨rfl, rfl⟩
  by_cases h12 : n = 431
  · subst h12
    clear h0 h1 h2 h3 h4 h5 h6 h7 h8 h9 h10 h11
    go_enter Tryz.func28, Tryz.ntmps28
    go_wp2
    go_ret
    exact ⟨rfl, rfl⟩
  by_cases h13 : n = 500
  · subst h13
    clear h0 h1 h2 h3 h4 h5 h6 h7 h8 h9 h10 h11 h12
    go_enter Tryz.func28, Tryz.ntmps28
    go_wp2
    go_ret
    exact ⟨rfl, rfl⟩
  by_cases h14 : n = 501
  · subst h14
    clear h0 h1 h2 h3 h4 h5 h6 h7 h8 h9 h10 h11 h12 h13
    go_enter Tryz.func28, Tryz.ntmps28
    go_wp2
    go_ret
    exact ⟨rfl, rfl⟩
  by_cases h15 : n = 503
  · subst h15
    clear h0 h1 h2 h3 h4 h5 h6 h7 h8 h9 h10 h11 h12 h13 h14
    go_enter Tryz.func28, Tryz.ntmps28
    go_wp2
    go_ret
    exact ⟨rfl, rfl⟩
  by_cases h16 : n = 505
  · subst h16
    clear h0 h1 h2 h3 h4 h5 h6 h7 h8 h9 h10 h11 h12 h13 h14 h15
    go_enter Tryz.func28, Tryz.ntmps28
    go_wp2
    go_ret
    exact ⟨rfl, rfl⟩
  by_cases h17 : n = 507
  · subst h17
    clear h0 h1 h2 h3 h4 h5 h6 h7 h8 h9 h10 h11 h12 h13 h14 h15 h16
    go_enter Tryz.func28, Tryz.ntmps28
    go_wp2
    go_ret
    exact ⟨rfl, rfl⟩
  have hr : reasonL n = [] := by unfold reasonL; simp only [h0, h1, h2, h3, h4, h5, h6, h7, h8, h9, h10, h11, h12, h13, h14, h15, h16, h17, if_false]
  rw [hr]
  clear hr
  have e0 : (n == 200) = false := by simpa using h0
  have e1 : (n == 204) = false := by simpa using h1
  have e2 : (n == 206) = false := by simpa using h2
  have e3 : (n == 400) = false := by simpa using h3
  have e4 : (n == 403) = false := by simpa using h4
  have e5 : (n == 404) = false := by simpa using h5
  have e6 : (n == 405) = false := by simpa using h6
  have e7 : (n == 409) = false := by simpa using h7
  have e8 : (n == 411) = false := by simpa using h8
  have e9 : (n == 413) = false := by simpa using h9
  have e10 : (n == 414) = false := by simpa using h10
  have e11 : (n == 416) = false := by simpa using h11
  have e12 : (n == 431) = false := by simpa using h12
  have e13 : (n == 500) = false := by simpa using h13
  have e14 : (n == 501) = false := by simpa using h14
  have e15 : (n == 503) = false := by simpa using h15
  have e16 : (n == 505) = false := by simpa using h16
  have e17 : (n == 507) = false := by simpa using h17
  clear h0 h1 h2 h3 h4 h5 h6 h7 h8 h9 h10 h11 h12 h13 h14 h15 h16 h17
  go_enter Tryz.func28, Tryz.ntmps28
  go_wp2
  go_ret
  exact ⟨rfl, rfl⟩

set_option maxHeartbeats 8000000 in
set_option maxRecDepth 100000 in
theorem rReason_any (n : Int) (w : World) : Calls Tryz.prog 29 #[.int .i64 n] w fun e w' => e = .returned (.string ⟨(reasonL n).toArray⟩) ∧ w' = w := by
  by_cases h0 : n = 200
  · subst h0
    go_enter Tryz.func29, Tryz.ntmps29
    go_wp2
    go_ret
    exact ⟨rfl, rfl⟩
  by_cases h1 : n = 204
  · subst h1
    clear h0
    go_enter Tryz.func29, Tryz.ntmps29
    go_wp2
    go_ret
    exact ⟨rfl, rfl⟩
  by_cases h2 : n = 206
  · subst h2
    clear h0 h1
    go_enter Tryz.func29, Tryz.ntmps29
    go_wp2
    go_ret
    exact ⟨rfl, rfl⟩
  by_cases h3 : n = 400
  · subst h3
    clear h0 h1 h2
    go_enter Tryz.func29, Tryz.ntmps29
    go_wp2
    go_ret
    exact ⟨rfl, rfl⟩
  by_cases h4 : n = 403
  · subst h4
    clear h0 h1 h2 h3
    go_enter Tryz.func29, Tryz.ntmps29
    go_wp2
    go_ret
    exact ⟨rfl, rfl⟩
  by_cases h5 : n = 404
  · subst h5
    clear h0 h1 h2 h3 h4
    go_enter Tryz.func29, Tryz.ntmps29
    go_wp2
    go_ret
    exact ⟨rfl, rfl⟩
  by_cases h6 : n = 405
  · subst h6
    clear h0 h1 h2 h3 h4 h5
    go_enter Tryz.func29, Tryz.ntmps29
    go_wp2
    go_ret
    exact ⟨rfl, rfl⟩
  by_cases h7 : n = 409
  · subst h7
    clear h0 h1 h2 h3 h4 h5 h6
    go_enter Tryz.func29, Tryz.ntmps29
    go_wp2
    go_ret
    exact ⟨rfl, rfl⟩
  by_cases h8 : n = 411
  · subst h8
    clear h0 h1 h2 h3 h4 h5 h6 h7
    go_enter Tryz.func29, Tryz.ntmps29
    go_wp2
    go_ret
    exact ⟨rfl, rfl⟩
  by_cases h9 : n = 413
  · subst h9
    clear h0 h1 h2 h3 h4 h5 h6 h7 h8
    go_enter Tryz.func29, Tryz.ntmps29
    go_wp2
    go_ret
    exact ⟨rfl, rfl⟩
  by_cases h10 : n = 414
  · subst h10
    clear h0 h1 h2 h3 h4 h5 h6 h7 h8 h9
    go_enter Tryz.func29, Tryz.ntmps29
    go_wp2
    go_ret
    exact ⟨rfl, rfl⟩
  by_cases h11 : n = 416
  · subst h11
    clear h0 h1 h2 h3 h4 h5 h6 h7 h8 h9 h10
    go_enter Tryz.func29, Tryz.ntmps29
    go_wp2
    go_ret
    exact ⟨rfl, rfl⟩
  by_cases h12 : n = 431
  · subst h12
    clear h0 h1 h2 h3 h4 h5 h6 h7 h8 h9 h10 h11
    go_enter Tryz.func29, Tryz.ntmps29
    go_wp2
    go_ret
    exact ⟨rfl, rfl⟩
  by_cases h13 : n = 500
  · subst h13
    clear h0 h1 h2 h3 h4 h5 h6 h7 h8 h9 h10 h11 h12
    go_enter Tryz.func29, Tryz.ntmps29
    go_wp2
    go_ret
    exact ⟨rfl, rfl⟩
  by_cases h14 : n = 501
  · subst h14
    clear h0 h1 h2 h3 h4 h5 h6 h7 h8 h9 h10 h11 h12 h13
    go_enter Tryz.func29, Tryz.ntmps29
    go_wp2
    go_ret
    exact ⟨rfl, rfl⟩
  by_cases h15 : n = 503
  · subst h15
    clear h0 h1 h2 h3 h4 h5 h6 h7 h8 h9 h10 h11 h12 h13 h14
    go_enter Tryz.func29, Tryz.ntmps29
    go_wp2
    go_ret
    exact ⟨rfl, rfl⟩
  by_cases h16 : n = 505
  · subst h16
    clear h0 h1 h2 h3 h4 h5 h6 h7 h8 h9 h10 h11 h12 h13 h14 h15
    go_enter Tryz.func29, Tryz.ntmps29
    go_wp2
    go_ret
    exact ⟨rfl, rfl⟩
  by_cases h17 : n = 507
  · subst h17
    clear h0 h1 h2 h3 h4 h5 h6 h7 h8 h9 h10 h11 h12 h13 h14 h15 h16
    go_enter Tryz.func29, Tryz.ntmps29
    go_wp2
    go_ret
    exact ⟨rfl, rfl⟩
  have hr : reasonL n = [] := by unfold reasonL; simp only [h0, h1, h2, h3, h4, h5, h6, h7, h8, h9, h10, h11, h12, h13, h14, h15, h16, h17, if_false]
  rw [hr]
  clear hr
  have e0 : (n == 200) = false := by simpa using h0
  have e1 : (n == 204) = false := by simpa using h1
  have e2 : (n == 206) = false := by simpa using h2
  have e3 : (n == 400) = false := by simpa using h3
  have e4 : (n == 403) = false := by simpa using h4
  have e5 : (n == 404) = false := by simpa using h5
  have e6 : (n == 405) = false := by simpa using h6
  have e7 : (n == 409) = false := by simpa using h7
  have e8 : (n == 411) = false := by simpa using h8
  have e9 : (n == 413) = false := by simpa using h9
  have e10 : (n == 414) = false := by simpa using h10
  have e11 : (n == 416) = false := by simpa using h11
  have e12 : (n == 431) = false := by simpa using h12
  have e13 : (n == 500) = false := by simpa using h13
  have e14 : (n == 501) = false := by simpa using h14
  have e15 : (n == 503) = false := by simpa using h15
  have e16 : (n == 505) = false := by simpa using h16
  have e17 : (n == 507) = false := by simpa using h17
  clear h0 h1 h2 h3 h4 h5 h6 h7 h8 h9 h10 h11 h12 h13 h14 h15 h16 h17
  go_enter Tryz.func29, Tryz.ntmps29
  go_wp2
  go_ret
  exact ⟨rfl, rfl⟩

end Go.Proofs.YtdilmefeofdkmaaGreatDoor
