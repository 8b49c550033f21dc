/-
  SEVERAL SMALL TEXTS IN ONE.
-/
import Derived.Test.YtgmgghbocidibaaGreatDoorSm20
import Derived.Shelf.Strings.Builder1
import Derived.Shelf.Strings.SlTrimAscii
/-
  xml: a strings.Builder within an element that has not ended: copyCheck, WriteString, WriteRune.
-/
namespace Go.Proofs.YtgmgghbocidibaaGreatDoor
open Go.RowKit

/-- the cells of an element that has not ended -/
def oC (nm : ByteArray) (kv ad v : Value) (sd : Bool) : Array Value := #[.string nm, .string ⟨#[]⟩, kv, ad, v, .bool sd]
/-- its text's builder has written l; v its buffer -/
structure BdAt (w : World) (b : Nat) (nm : ByteArray) (kv : Value) (sd : Bool) (l : List UInt8) (v : Value) : Prop where
  box : ∃ ad, w.heap[b]? = some (.cells (oC nm kv (.pointer ad) v sd) 103 (0, 0)) ∧ (ad = none ∨ ad = some ⟨b, 3, none⟩)
  own : w.ownsRow (b + 1) 5 1 v l.length (Lib.byteCells l)
theorem nb_of {w : World} {b : Nat} {e : TypeId} {n : Nat} {v : Value} {xs : List Value} (h : w.ownsRow (b + 1) e 1 v n xs) : v.ownBlock ≠ some b := fun e => by have := (h.lt b e).1; omega
theorem BdAt.nb {w : World} {b : Nat} {nm : ByteArray} {kv v : Value} {sd : Bool} {l : List UInt8} (h : BdAt w b nm kv sd l v) : v.ownBlock ≠ some b := nb_of h.own
theorem BdAt.lt {w : World} {b : Nat} {nm : ByteArray} {kv v : Value} {sd : Bool} {l : List UInt8} (h : BdAt w b nm kv sd l v) : b < w.heap.size := by
  obtain ⟨ad, h1, -⟩ := h.box
  exact (Array.getElem?_eq_some_iff.1 h1).1
theorem BdAt.kept {w w' : World} {b : Nat} {nm : ByteArray} {kv v : Value} {sd : Bool} {l : List UInt8} {M : Nat → Prop} (h : BdAt w b nm kv sd l v) (hc : Chg w w' M) (hb : ¬ M b) (hm : ∀ k, v.ownBlock = some k → ¬ M k) : BdAt w' b nm kv sd l v := by
  obtain ⟨ad, h1, h2⟩ := h.box
  refine ⟨⟨ad, (hc.block b (Array.getElem?_eq_some_iff.1 h1).1 hb).trans h1, h2⟩, ⟨h.own.1, ?_⟩⟩
  rcases h.own.2 with h3 | ⟨g, cap, cur, hv, hg, hh, r⟩
  · exact .inl h3
  · exact .inr ⟨g, cap, cur, hv, hg, (hc.block g (Array.getElem?_eq_some_iff.1 hh).1 (hm g (by rw [hv]; rfl))).trans hh, r⟩
/-- what a writing leaves as it was -/
def Wrote (w w' : World) (b : Nat) (v : Value) : Prop := Chg w w' (fun k => k = b ∨ some k = v.ownBlock)

theorem info_byte : ∃ i, Tryz.prog.info? 5 = some i ∧ i.zero = some (.int .u8 0) ∧ i.size = 1 ∧ i.bytes = 1 :=
  info_parts (show (Tryz.prog.info? 5).map (fun i => (i.zero, i.size, i.bytes)) = some (some (.int .u8 0), 1, 1) by kernel_rfl)

set_option maxHeartbeats 1000000 in
theorem info_builder : ∃ j, Tryz.prog.info? 101 = some j ∧ j.size = 2 := by
  have h : (Tryz.prog.info? 101).map (·.size) = some 2 := by kernel_rfl
  obtain ⟨j, hj, hs⟩ := Option.map_eq_some_iff.1 h
  exact ⟨j, hj, hs⟩

set_option maxHeartbeats 1000000 in
set_option maxRecDepth 100000 in
theorem copyCheck_any (b : Nat) (nm : ByteArray) (kv : Value) (sd : Bool) (l : List UInt8) (v : Value) (w : World) (h : BdAt w b nm kv sd l v) :
    Calls Tryz.prog 81 #[.pointer (some ⟨b, 3, none⟩)] w fun e w' => e = .returned (.tuple #[]) ∧ w'.heap[b]? = some (.cells (oC nm kv (.pointer (some ⟨b, 3, none⟩)) v sd) 103 (0, 0)) ∧ Chg w w' (fun k => k = b) := by
  obtain ⟨ad, hb, hor⟩ := h.box
  obtain ⟨j, hj, hjs⟩ := info_builder
  have q0 : w.cell? ⟨b, 3, none⟩ = some (.pointer ad) := cell_at hb rfl
  have f0 : w.frozen? ⟨b, 3, none⟩ = false := free_of_heap hb
  have hsh : w.shape? b = some (103, 6) := by simp [World.shape?, hb, oC]
  have HB := Lib.hid hb
  have HSH := Lib.hid hsh
  clear hb h hsh
  rcases hor with rfl | rfl
  · go_enter Tryz.func81, Tryz.ntmps81
    go_wp2
    rw [Lib.run_to_unsafe w ⟨b, 3, none⟩ Tryz.underlying99 Tryz.underlying162 hj (by rw [hjs]; decide) HSH.out (by exact Nat.le_of_ble_eq_true rfl)]
    simp only [Result.andThen]
    rw [Oper.upon_value]
    go_wp2
    rw [run_callFunc_extern Tryz.func102 (by kernel_rfl) (by kernel_rfl) (by kernel_rfl) (e := Extern.AbiNoEscape.same) (by kernel_rfl)]
    rw [Lib.run_noEscape]
    simp only [Result.andThen]
    rw [Oper.upon_value]
    go_wp2
    rw [Lib.run_from_unsafe w ⟨b, 3, none⟩ Tryz.underlying162 Tryz.underlying99 hj HSH.out (by kernel_rfl)]
    simp only [Result.andThen]
    rw [Oper.upon_value]
    go_wp2
    go_end0
    refine ⟨rfl, ?_, Chg.set _ _ _⟩
    rw [heap_set HB.out]; rfl
  · go_enter Tryz.func81, Tryz.ntmps81
    go_wp2
    rw [Lib.run_neq_ptr_same w _ Tryz.underlying99 hj]
    go_wp2
    go_end0
    exact ⟨rfl, HB.out, Chg.refl _ _⟩

set_option maxHeartbeats 2000000 in
set_option maxRecDepth 100000 in
theorem writeString_any (b : Nat) (nm : ByteArray) (kv : Value) (sd : Bool) (l s : List UInt8) (v : Value) (w : World) (h : BdAt w b nm kv sd l v) (hl : l.length + s.length ≤ 140737488355328) :
    Calls Tryz.prog 76 #[.pointer (some ⟨b, 3, none⟩), .string ⟨s.toArray⟩] w fun e w' => e = .returned (.tuple #[.int .i64 s.length, .nilIface]) ∧ ∃ v', BdAt w' b nm kv sd (l ++ s) v' ∧ Wrote w w' b v := by
  obtain ⟨i0, hi, hz0, hz1, hz2⟩ := info_byte
  have HC := Lib.hid (copyCheck_any b nm kv sd l v w h)
  have HW := Lib.hid h
  have hss : (⟨s.toArray⟩ : ByteArray).size = s.length := by simp [ByteArray.size]
  have HSS := Lib.hid hss
  clear h hss
  go_enter Tryz.func76, Tryz.ntmps76
  go_wp2_with fail
  refine HC.out.mono ?_
  rintro e w1 ⟨rfl, hb1, hc1⟩
  have W1 : Hid (w1.ownsRow (b + 1) 5 1 v l.length (Lib.byteCells l)) := by
    refine ⟨HW.out.own.1, ?_⟩
    rcases HW.out.own.2 with h3 | ⟨g, cap, cur, hv, hg, hh, r⟩
    · exact .inl h3
    · exact .inr ⟨g, cap, cur, hv, hg, (hc1.block g (Array.getElem?_eq_some_iff.1 hh).1 (fun e => HW.out.nb (by rw [hv, e]; rfl))).trans hh, r⟩
  have hs1 := hc1.size
  have hlt := HW.out.lt
  have HB1 := Lib.hid hb1
  have HC1 := Lib.hid hc1
  have c0 : w1.cell? ⟨b, 3, none⟩ = some (.pointer (some ⟨b, 3, none⟩)) := cell_at hb1 rfl
  have c1 : w1.cell? ⟨b, 4, none⟩ = some v := cell_at hb1 rfl
  have hvb : Hid (v.ownBlock ≠ some b) := HW.out.nb
  clear hb1 hc1
  go_wp2_with (at_builtin; refine wpList_append_string_at _ rfl _ _ 51 9 rfl (b + 1) 5 i0 Tryz.underlying51 Tryz.underlying9 hi hz0 hz1 hz2 _ _ _ rfl W1.out ⟨s.toArray⟩ rfl ?c3 ?c4 ?c5 ?_)
  case c3 => rw [HSS.out]; unfold maxLen; omega
  case c4 => rw [HSS.out]; omega
  case c5 => have := HC1.out.size; omega
  intro v' w2 hown' hgrow hat
  have hown' : w2.ownsRow (b + 1) 5 1 v' (l ++ s).length (Lib.byteCells (l ++ s)) := by
    have e : Lib.byteCells (l ++ s) = Lib.byteCells l ++ Lib.strCells ⟨s.toArray⟩ := by simp [Lib.byteCells, Lib.strCells]
    rw [e, List.length_append]; exact hown'
  have hb2 : w2.heap[b]? = some (.cells (oC nm kv (.pointer (some ⟨b, 3, none⟩)) v sd) 103 (0, 0)) := (hgrow.block b (by omega) (fun e => hvb.out e.symm)).trans HB1.out
  have d0 : w2.cell? ⟨b, 3, none⟩ = some (.pointer (some ⟨b, 3, none⟩)) := cell_at hb2 rfl
  have d1 : w2.cell? ⟨b, 4, none⟩ = some v := cell_at hb2 rfl
  have e1 : w2.frozen? ⟨b, 4, none⟩ = false := free_of_heap hb2
  have HB2 := Lib.hid hb2
  have HG := Lib.hid hgrow
  have HO := Lib.hid hown'
  have HAT := Lib.hid hat
  have hv'1 : v'.oneCell' = true := by
    rcases hown'.2 with ⟨rfl, _⟩ | ⟨g, cap, cur, rfl, _⟩ <;> rfl
  obtain ⟨a', n', k', rfl⟩ : ∃ a n k, v' = .slice a n k := by
    rcases hown'.2 with ⟨rfl, _⟩ | ⟨g, cap, cur, rfl, _⟩ <;> exact ⟨_, _, _, rfl⟩
  have HNB : Hid ((Value.slice a' n' k').ownBlock ≠ some b) := nb_of HO.out
  clear hb2 hgrow hown' hv'1 hat c0 c1
  go_wp2
  go_ret2
  refine ⟨?_, .slice a' n' k', ⟨⟨some ⟨b, 3, none⟩, by rw [heap_set HB2.out]; rfl, .inr rfl⟩, ⟨HO.out.1, ?_⟩⟩, ?_⟩
  · first | rfl | (simp [ByteArray.size])
  · rcases HO.out.2 with h3 | ⟨g, cap, cur, hv, hg, hh, r⟩
    · exact .inl h3
    · exact .inr ⟨g, cap, cur, hv, hg, by rw [Below.heap_setCell _ _ _ _ (fun e => HNB.out (by rw [hv]; exact congrArg some e))]; exact hh, r⟩
  · exact ((HC1.out.mono (fun _ _ h => .inl h)).trans ((Chg.grown HG.out).mono (fun _ _ h => .inr h))).trans ((Chg.set _ _ _).mono (fun _ _ h => .inl h))


theorem runeCells_enc (r : Int) : Lib.runeCells r = Lib.byteCells (Lib.encodeRune r) := (Lib.byteCells_encodeRune r).symm
set_option maxHeartbeats 2000000 in
set_option maxRecDepth 100000 in
theorem writeRune_any (b : Nat) (nm : ByteArray) (kv : Value) (sd : Bool) (l : List UInt8) (r : Int) (hr0 : -2147483648 ≤ r) (hr1 : r ≤ 2147483647) (v : Value) (w : World) (h : BdAt w b nm kv sd l v) (hl : l.length + 4 ≤ 140737488355328) :
    Calls Tryz.prog 65 #[.pointer (some ⟨b, 3, none⟩), .int .i32 r] w fun e w' => (∃ x, e = .returned x) ∧ ∃ v', BdAt w' b nm kv sd (l ++ Lib.encodeRune r) v' ∧ Wrote w w' b v := by
  have HC := Lib.hid (copyCheck_any b nm kv sd l v w h)
  have HW := Lib.hid h
  clear h
  obtain ⟨av, cv, rfl⟩ : ∃ a c, v = .slice a l.length c := by
    rcases HW.out.own.2 with ⟨rfl, h0⟩ | ⟨g, cap, cur, rfl, _⟩
    · rw [h0]; exact ⟨_, _, rfl⟩
    · exact ⟨_, _, rfl⟩
  go_enter Tryz.func65, Tryz.ntmps65
  go_wp2_with fail
  refine HC.out.mono ?_
  rintro e w1 ⟨rfl, hb1, hc1⟩
  have W1 : Hid (w1.ownsRow (b + 1) 5 1 (.slice av l.length cv) l.length (Lib.byteCells l)) := by
    refine ⟨HW.out.own.1, ?_⟩
    rcases HW.out.own.2 with h3 | ⟨g, cap, cur, hv, hg, hh, r⟩
    · exact .inl h3
    · exact .inr ⟨g, cap, cur, hv, hg, (hc1.block g (Array.getElem?_eq_some_iff.1 hh).1 (fun e => HW.out.nb (by rw [hv, e]; rfl))).trans hh, r⟩
  have hs1 := hc1.size
  have hlt := HW.out.lt
  have HB1 := Lib.hid hb1
  have HC1 := Lib.hid hc1
  have c1 : w1.cell? ⟨b, 4, none⟩ = some (.slice av l.length cv) := cell_at hb1 rfl
  have hvb : Hid ((Value.slice av l.length cv).ownBlock ≠ some b) := HW.out.nb
  have HAR := Lib.hid (fun W (hW : W.ownsRow (b + 1) 5 1 (.slice av l.length cv) l.length (Lib.byteCells l)) => Tryz.utf8_AppendRune_plain (b + 1) (.slice av l.length cv) l.length (Lib.byteCells l) r hr0 hr1 W hW hl)
  clear hb1 hc1
  go_wp2_with fail
  refine (HAR.out w1 W1.out (by have := HC1.out.size; omega)).mono ?_
  rintro e w2 ⟨v', rfl, ho, o, hg⟩
  rw [runeCells_enc] at ho
  have ho2 : w2.ownsRow (b + 1) 5 1 v' (l ++ Lib.encodeRune r).length (Lib.byteCells (l ++ Lib.encodeRune r)) := by
    have e1 : (Lib.byteCells (Lib.encodeRune r)).length = (Lib.encodeRune r).length := by simp [Lib.byteCells]
    rw [e1] at ho
    have e : Lib.byteCells (l ++ Lib.encodeRune r) = Lib.byteCells l ++ Lib.byteCells (Lib.encodeRune r) := by simp [Lib.byteCells]
    rw [e, List.length_append]; exact ho
  obtain ⟨a', n', k', rfl⟩ : ∃ a n k, v' = .slice a n k := by
    rcases ho2.2 with ⟨rfl, _⟩ | ⟨g, cap, cur, rfl, _⟩ <;> exact ⟨_, _, _, rfl⟩
  have HC2 : Hid (Chg w1 w2 (fun k => some k = (Value.slice av l.length cv).ownBlock)) := (Chg.of_below (below_alloc (Below.refl _ _) (Nat.le_refl _) o)).trans (Chg.grown hg)
  have hb2 : w2.heap[b]? = some (.cells (oC nm kv (.pointer (some ⟨b, 3, none⟩)) (.slice av l.length cv) sd) 103 (0, 0)) := (HC2.out.block b (Array.getElem?_eq_some_iff.1 HB1.out).1 (fun e => hvb.out e.symm)).trans HB1.out
  have d1 : w2.cell? ⟨b, 4, none⟩ = some (.slice av l.length cv) := cell_at hb2 rfl
  have e1 : w2.frozen? ⟨b, 4, none⟩ = false := free_of_heap hb2
  have HB2 := Lib.hid hb2
  have HO := Lib.hid ho2
  have HNB : Hid ((Value.slice a' n' k').ownBlock ≠ some b) := nb_of ho2
  have c2 : w2.cell? ⟨b, 3, none⟩ = some (.pointer (some ⟨b, 3, none⟩)) := cell_at hb2 rfl
  have HW3 : Hid ((w2.setCell ⟨b, 4, none⟩ (.slice a' n' k')).heap[b]? = some (.cells (oC nm kv (.pointer (some ⟨b, 3, none⟩)) (.slice a' n' k') sd) 103 (0, 0))) := by show _ = _; rw [heap_set HB2.out]; rfl
  clear hb2 ho2 ho hg c1
  go_wp2_with fail
  go_ret2
  refine ⟨⟨_, rfl⟩, .slice a' n' k', ⟨⟨some ⟨b, 3, none⟩, HW3.out, .inr rfl⟩, ⟨HO.out.1, ?_⟩⟩, ?_⟩
  · rcases HO.out.2 with h3 | ⟨g, cap, cur, hv, hg, hh, r⟩
    · exact .inl h3
    · exact .inr ⟨g, cap, cur, hv, hg, by rw [Below.heap_setCell _ _ _ _ (fun e => HNB.out (by rw [hv]; exact congrArg some e))]; exact hh, r⟩
  · exact ((HC1.out.mono (fun _ _ h => .inl h)).trans (HC2.out.mono (fun _ _ h => .inr h))).trans ((Chg.set _ _ _).mono (fun _ _ h => .inl h))
end Go.Proofs.YtgmgghbocidibaaGreatDoor

/-
  strings.TrimLeft at digits.
-/
namespace Go.Proofs.YtgmgghbocidibaaGreatDoor
open Go.RowKit Go.Lib

def digs (base : Nat) : Bs := if base = 16 then [48, 49, 50, 51, 52, 53, 54, 55, 56, 57, 97, 98, 99, 100, 101, 102, 65, 66, 67, 68, 69, 70] else [48, 49, 50, 51, 52, 53, 54, 55, 56, 57]
theorem digs10_at : ∀ n : Fin 256, (digs 10).contains (UInt8.ofNat n.val) = digX 10 (UInt8.ofNat n.val) := by decide +kernel
theorem digs16_at : ∀ n : Fin 256, (digs 16).contains (UInt8.ofNat n.val) = digX 16 (UInt8.ofNat n.val) := by decide +kernel
theorem trim_any (base : Nat) (hb : base = 10 ∨ base = 16) (l : Bs) (w : World) :
    Calls Tryz.prog 78 #[.string ⟨l.toArray⟩, .string ⟨(digs base).toArray⟩] w fun e w' => e = .returned (.string ⟨(l.dropWhile (digX base)).toArray⟩) ∧ Below w.heap.size w w' := by
  have hcs : (digs base).length ≤ 22 := by rcases hb with rfl | rfl <;> decide
  have hall : (digs base).all (fun b => decide (b.toNat < 128)) = true := by rcases hb with rfl | rfl <;> decide
  have hc : ∀ c : UInt8, (digs base).contains c = digX base c := fun c => by
    have h1 := digs10_at ⟨c.toNat, c.toNat_lt⟩
    have h2 := digs16_at ⟨c.toNat, c.toNat_lt⟩
    simp only [UInt8.ofNat_toNat] at h1 h2
    rcases hb with rfl | rfl
    · exact h1
    · exact h2
  have h := Any.strings_TrimLeft_laid Tryz.lays161 (by kernel_rfl) ⟨l.toArray⟩ ⟨(digs base).toArray⟩ w (by rw [sz_str]; omega) (by
    intro j b hj
    exact of_decide_eq_true (List.all_eq_true.1 hall b (List.mem_of_getElem? hj)))
  refine h.mono ?_
  rintro e w' ⟨rfl, hb2⟩
  refine ⟨?_, hb2⟩
  have : Lib.trimLeftS l (digs base) = l.dropWhile (digX base) := by
    unfold Lib.trimLeftS
    congr 1
    funext c
    exact hc c
  show Ending.returned (.string ⟨(Lib.trimLeftS l (digs base)).toArray⟩) = _
  rw [this]
end Go.Proofs.YtgmgghbocidibaaGreatDoor
