/-
  Tell: its closures.
-/
import Derived.Test.YtnnfcbebjbfkoaaDoorTreeOn
import Derived.Test.YtnnfcbebjbfkoaaDoorCyLeaf
namespace Go.Proofs.YtnnfcbebjbfkoaaDoor
open Go.RowKit

theorem results_cell1 {P : Program} {fn : Func} {p : Tmp} {ty : TypeId} (h : fn.results = #[.cell p ty]) (tmps : Array Value) (w : World) (g : Nat) (t : TypeId) (cs : Array Value) (d : TypeDesc)
    (hp : tmps.getD p undef = .pointer (some ⟨g, 0, none⟩)) (hg : w.heap[g]? = some (.cells cs t (0, 0)))
    (hu : P.underlying ty = some d) (hd : (match d with | .struct _ | .array _ _ => true | _ => false) = true) (hi : (P.info? ty).map (·.size) = some cs.size) :
    (results fn tmps).run P w = .ok (.agg cs) w := by
  have hp' : tmps[p]?.getD undef = .pointer (some ⟨g, 0, none⟩) := by simpa using hp
  simp [results, h, hp', asAddr, run_loadVar_row w g t ty cs (0, 0) d hg hu hd hi]

set_option maxHeartbeats 400000 in
theorem text_any (a b : ByteArray) (w : World) :
    Calls Tryd.prog 20 #[.string a, .string b] w fun e w' => e = .returned (.agg #[.string a, .string b, .slice none 0 0]) ∧ Below w.heap.size w w' := by
  go_enter Tryd.func20, Tryd.ntmps20
  go_wp2
  refine bodyPost_ret (results_cell1 rfl _ _ w.heap.size 24 _ _ rfl (heap_alloc_new _ _) Tryd.underlying24 rfl (by kernel_rfl)) rfl ?_
  exact ⟨rfl, below_alloc (Below.refl _ _) (Nat.le_refl _) _⟩

theorem info_elem : ∃ i, Tryd.prog.info? 24 = some i ∧ i.zero = some (.agg #[.string ⟨#[]⟩, .string ⟨#[]⟩, .slice none 0 0]) ∧ i.size = 3 ∧ i.bytes = 56 :=
  info_parts (show (Tryd.prog.info? 24).map (fun i => (i.zero, i.size, i.bytes)) = some (some (.agg #[.string ⟨#[]⟩, .string ⟨#[]⟩, .slice none 0 0]), 3, 56) by kernel_rfl)

/-- the slice lies where it lay, or in a new block -/
def OwnNew (w : World) (v v' : Value) : Prop := ∀ g, v'.ownBlock = some g → v.ownBlock = some g ∨ w.heap.size ≤ g

/-- what put leaves -/
def PutPost (w : World) (base kb : Nat) (nm : ByteArray) (ks : List Tree) (v : Value) (e : Ending) (w' : World) : Prop :=
  e = .returned (.tuple #[]) ∧ (∃ v', Grow w' base kb nm ks v' ∧ OwnNew w v v') ∧ Chg w w' (fun b => b = kb ∨ some b = v.ownBlock)

set_option maxHeartbeats 800000 in
theorem put_any (w : World) (base kb : Nat) (nm : ByteArray) (ks ks2 : List Tree) (v : Value) (ad : Addr) (c : Nat) (news : List Value) (ok2 : Nat → Prop) (h : Grow w base kb nm ks v)
    (h2 : RowOf w ok2 ks2 news) (hok2 : ∀ b, ok2 b → base ≤ b ∧ b < w.heap.size ∧ some b ≠ v.ownBlock) (hnews : ∀ j u, news[j]? = some u → w.cell? (ad.add j) = some u) (hm : 0 < ks2.length) (hn : ks.length + ks2.length ≤ 1000000) (hB : base ≤ w.heap.size) :
    Calls Tryd.prog 21 #[.slice (some ad) ks2.length c, .pointer (some ⟨kb, 0, none⟩)] w (PutPost w base kb nm (ks ++ ks2) v) := by
  obtain ⟨i0, hi, hz0, hz1, hz2⟩ := info_elem
  obtain ⟨xs, ok, ho, hr, hok⟩ := h.row
  have c2 := cell_of_heap (x := 2) h.box
  have f2 := free_of_heap (x := 2) h.box
  simp at c2
  have hkb := h.kb_lt
  have hlow := h.low
  have HO := Lib.hid ho
  have HH := Lib.hid h
  have HR := Lib.hid hr
  have HOK := Lib.hid hok
  have HR2 := Lib.hid h2
  have HOK2 := Lib.hid hok2
  have HN := Lib.hid hnews
  have HL := Lib.hid (RowOf.length h2)
  have H1 := Lib.hid (RowOf.oneCell h2)
  clear h ho hr hok h2 hok2 hnews
  go_enter Tryd.func21, Tryd.ntmps21
  go_wp2_with (at_builtin; refine wpList_append_lies _ rfl _ _ 22 rfl base 24 i0 _ 3 56 Tryd.underlying22 hi hz0 hz1 hz2 rfl (by decide) v ks.length xs rfl HO.out ad ks2.length c news rfl HL.out HN.out H1.out hm ?c1 ?c2 hB _ rfl ?_)
  case c1 => simp only [maxLen]; omega
  case c2 => omega
  intro g cap w1 hown hgr hat hlt
  have hkv : some kb ≠ v.ownBlock := fun e => by have := (HH.out.own_lt e.symm).1; omega
  have d2 : w1.cell? ⟨kb, 2, none⟩ = some v := hgr.cell c2 hkv
  have e2 : w1.frozen? ⟨kb, 2, none⟩ = false := by rw [hgr.frozen_far _ hkb hkv]; exact f2
  have HP := Lib.hid (Grow.push (w' := w1.setCell ⟨kb, 2, none⟩ (.slice (some ⟨g, 0, none⟩) (ks.length + ks2.length) cap)) HH.out HR.out HOK.out HR2.out HOK2.out hown hgr hat hlt rfl)
  have HA := Lib.hid hat
  clear hown hgr hat hlt hkv
  go_wp2
  go_end0
  refine ⟨rfl, ⟨_, HP.out.1, fun g' hg' => ?_⟩, HP.out.2⟩
  simp only [Value.ownBlock, Option.some.injEq] at hg'
  subst hg'
  rcases HA.out with h | h
  · exact .inl h
  · exact .inr (by omega)

end Go.Proofs.YtnnfcbebjbfkoaaDoor
