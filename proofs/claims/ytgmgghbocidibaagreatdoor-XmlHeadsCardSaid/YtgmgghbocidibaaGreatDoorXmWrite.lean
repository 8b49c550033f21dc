/-
  xml.Write: the document's text, or why not.
-/
import Derived.Test.YtgmgghbocidibaaGreatDoorXmWr
import Derived.Lib.SlBytesConst
namespace Go.Proofs.YtgmgghbocidibaaGreatDoor
open Go.RowKit Go.Lib Go.PlainAid

/-- what Write gives -/
def wOut (t : Tree) : Bs × Int := if okT t = false then ([], 55) else if 1000000 < (headC ++ writeL t).length then ([], 56) else (headC ++ writeL t, 0)
theorem own_textX {w : World} {base : Nat} {v : Value} {l : Bs} (h : OwnX w base v l) : (convert 51 9 v).run Tryz.prog w = .ok (.string ⟨l.toArray⟩) w := by
  cases h with
  | own h =>
    rcases h.2 with ⟨rfl, hz⟩ | ⟨g, cap, cur, rfl, _⟩
    · obtain rfl : l = [] := List.length_eq_zero_iff.1 hz
      rw [run_convert_bytes_string w 51 9 5 none 0 0 Tryz.underlying51 Tryz.underlying5 Tryz.underlying9]
      rfl
    · refine run_convert_bytes_back w _ _ _ _ cap l Tryz.underlying51 Tryz.underlying5 Tryz.underlying9 (fun j hj => ?_)
      have := h.cells (g := g) rfl j (.int .u8 (l[j]'hj).toNat) (by simp [byteCells, hj])
      exact this
  | full g fz hv hb hg =>
    subst hv
    refine run_convert_bytes_back w _ _ _ _ l.length l Tryz.underlying51 Tryz.underlying5 Tryz.underlying9 (fun j hj => ?_)
    rw [Addr.add_lit, Nat.zero_add, cell_of_row w g j _ 5 fz hg]
    simp [byteCells, hj]
theorem wpList_convert_to {P : Program} {ops : Array Oper} {rest : List Oper} {o : Oper} {a : Act} {w : World} {Q : Exit → Act → World → Prop} (hgd : o.guard = none) (src dst : TypeId) (x : Operand) (ho : o.op = .convert src dst x)
    (v v' : Value) (w' : World) (hx : a.eval x = v) (hr : (convert src dst v).run P w = .ok v' w') (h : wpList P ops Q rest (a.put o.dst v') w') : wpList P ops Q (o :: rest) a w :=
  wpList_plain hgd fun _ hK => by
    unfold Oper.wp execOp
    simp only [ho, hx, Sem.run_bind, Sem.run_pure, Result.andThen_ok, hr]
    exact hK _ _ h
structure WBox (w W : World) (es : Array Value) : Prop where
  below : Below w.heap.size w W
  box : W.heap[w.heap.size]? = some (.cells es 24 (0, 0))
theorem WBox.later {w W W' : World} {es : Array Value} (h : WBox w W es) (hb : Below W.heap.size W W') : WBox w W' es :=
  ⟨h.below.trans (hb.mono h.below.size), (hb.block _ (Array.getElem?_eq_some_iff.1 h.box).1).trans h.box⟩

set_option maxHeartbeats 4000000 in
set_option maxRecDepth 100000 in
theorem write_prog (t : Tree) (a : Option Addr) (c : Nat) (w : World) (h : ElemIn w t a c) (hG : GlobC w) (hS : okT t = true → SmT t) :
    Calls Tryz.prog 8 #[.agg (elC t a c)] w fun e w' => e = .returned (.tuple #[.string ⟨(wOut t).1.toArray⟩, .int .i64 (wOut t).2]) ∧ Below w.heap.size w w' := by
  have HT := Lib.hid h
  have HG := Lib.hid hG
  have HS := Lib.hid hS
  clear h hG hS
  obtain ⟨es, hes⟩ : ∃ es, elC t a c = es := ⟨_, rfl⟩
  obtain ⟨W0, hw0⟩ : ∃ W0, w.alloc (.cells #[.string t.name, .string t.text, .slice a t.kids.length c] 24) = W0 := ⟨_, rfl⟩
  have X0 : Hid (WBox w W0 (elC t a c)) := ⟨by rw [← hw0]; exact below_alloc (Below.refl _ _) (Nat.le_refl _) _, by rw [← hw0]; exact heap_alloc_new _ _⟩
  have HR := Lib.hid (isRight_any t a c W0 (HT.out.later X0.out.below) (HG.out.later X0.out.below))
  clear hes
  rw [show Value.agg (elC t a c) = .agg #[.string t.name, .string t.text, .slice a t.kids.length c] from rfl]
  go_enter Tryz.func8, Tryz.ntmps8
  go_wp2_with (refine wpList_load_row (by rfl) 24 _ (by rfl) w.heap.size (by rfl) 24 (elC t a c) (0, 0) _ (by exact X0.out.box) Tryz.underlying24 rfl (by kernel_rfl) ?_)
  refine HR.out.mono ?_
  rintro e W1 ⟨rfl, hb1⟩
  have X1 := Lib.hid (X0.out.later hb1)
  clear hb1 X0 HR hw0
  cases hok : okT t with
  | false =>
    have HE : Hid (wOut t = ([], 55)) := by show _ = _; unfold wOut; rw [if_pos hok]
    go_wp2_with fail
    go_ret2
    rw [HE.out]
    exact ⟨rfl, X1.out.below⟩
  | true =>
    have HE : Hid (wOut t = if 1000000 < (headC ++ writeL t).length then ([], 56) else (headC ++ writeL t, 0)) := by show _ = _; unfold wOut; rw [if_neg (by rw [hok]; decide)]
    have HSM := Lib.hid (HS.out hok)
    have HC := Lib.hid ((okT_iff t).1 hok).2
    clear hok HS
    obtain ⟨W2, hw2⟩ : ∃ W2, W1.alloc (.cells onC.toArray 9) = W2 := ⟨_, rfl⟩
    have HON : Hid (∀ j v, onC[j]? = some v → W2.cell? ⟨W1.heap.size, j, none⟩ = some v) := fun j v hj => by
      rw [← hw2]
      exact cell_at (heap_alloc_new _ _) (by simpa using hj)
    have X2 : Hid (WBox w W2 (elC t a c)) := X1.out.later (by rw [← hw2]; exact below_alloc (Below.refl _ _) (Nat.le_refl _) _)
    have HNR := Lib.hid (newReplacer_any (w := W2) (q := W1.heap.size) (c := 10) HON.out)
    go_wp2_with (refine wpList_known (by rfl) (.buildSlice 74 10 _) (by rfl) (.slice (some ⟨W1.heap.size, 0, none⟩) 10 10) W2 (by rw [← hw2]; kernel_rfl) ?_)
    refine HNR.out.mono ?_
    rintro e W3 ⟨R, g, cp, rfl, h1, h2, h3, h4, h5, h6⟩
    have X3 := Lib.hid (X2.out.later h6)
    have HRP : Hid (RepAt W3 R (fun k => W2.heap.size ≤ k ∧ k < W3.heap.size)) := .fresh g cp 0 h1 h2 h5.symm ⟨h3, (Array.getElem?_eq_some_iff.1 h1).1⟩ ⟨h4, World.block_lt_of_cell? _ _ (h2 0 _ rfl)⟩
    have HRW : Hid (w.heap.size ≤ R) := Nat.le_trans X2.out.below.size h3
    clear h1 h2 h3 h4 h5 h6 hw2 HON HNR
    obtain ⟨W4, hw4⟩ : ∃ W4, W3.alloc (.cells (byteCells headC).toArray 5 ((byteCells headC).toArray.size, (byteCells headC).toArray.size + 1)) = W4 := ⟨_, rfl⟩
    obtain ⟨V4, hv4⟩ : ∃ V4, W3.alloc (.cells (byteCells headC).toArray 5) = V4 := ⟨_, rfl⟩
    have B4 : Below W3.heap.size W3 W4 := by rw [← hw4]; exact below_alloc (Below.refl _ _) (Nat.le_refl _) _
    have X4 := Lib.hid (X3.out.later B4)
    have HOWN : Hid (WrAt w W4 R (.slice (some ⟨W3.heap.size, 0, none⟩) 39 39) headC) := by
      refine ⟨X4.out.below, .full W3.heap.size _ rfl X3.out.below.size (by rw [← hw4]; exact heap_alloc_new _ _), ⟨_, HRP.out.kept fun k hk _ => B4.block k hk, fun k hk => Nat.lt_of_lt_of_le hk.2 B4.size, fun g hg hK => ?_⟩, HRW.out⟩
      injection hg with hg
      have := hK.2
      simp only at hg
      omega
    have hb := write_bound t HSM.out
    have hcnt := HC.out
    have HWR := Lib.hid (write_any t w W4 R (.slice (some ⟨W3.heap.size, 0, none⟩) 39 39) headC a c HT.out HSM.out (by have : headC.length = 39 := rfl; omega) HOWN.out)
    clear hb hcnt B4
    have HCV : Hid ((convert 51 51 (.slice (some ⟨W3.heap.size, 0, none⟩) 39 39)).run Tryz.prog V4 = .ok (.slice (some ⟨W3.heap.size, 0, none⟩) 39 39) W4) := by
      show _ = _
      rw [← hv4, ← hw4]
      exact run_convert_bytes_const W3 51 5 _ 39 39 Tryz.underlying51 Tryz.underlying5
    go_wp2_with (first
      | (refine wpList_convert_to (by rfl) 51 51 _ (by rfl) (.slice (some ⟨W3.heap.size, 0, none⟩) 39 39) (.slice (some ⟨W3.heap.size, 0, none⟩) 39 39) W4 (by rfl) HCV.out ?_; clear hw4)
      | (refine wpList_known (by rfl) (.buildSlice 51 39 _) (by rfl) (.slice (some ⟨W3.heap.size, 0, none⟩) 39 39) V4 (by rw [← hv4]; kernel_rfl) ?_; clear hv4)
      | (refine wpList_load_row (by rfl) 24 _ (by rfl) w.heap.size (by rfl) 24 (elC t a c) (0, 0) _ (by exact X4.out.box) Tryz.underlying24 rfl (by kernel_rfl) ?_))
    refine HWR.out.mono ?_
    rintro e W5 ⟨v5, rfl, hA, hC, hN⟩
    have HA := Lib.hid hA
    have B5 : Hid (Below w.heap.size w W5) := hA.below
    clear hA hC hN HWR HOWN HRP X4 X3 X2 X1
    obtain ⟨p5, c5, rfl⟩ := HA.out.form
    have HTX := Lib.hid (own_textX HA.out.own)
    have HLW := Lib.hid (wr_head t)
    by_cases g1 : 1000000 < (wrT t headC).length
    · have g1z : (1000000 : Int) < ((wrT t headC).length : Int) := by omega
      have HE2 : Hid (wOut t = ([], 56)) := by show _ = _; rw [HE.out, if_pos (HLW.out.1.1 g1)]
      go_wp2_with fail
      go_ret2
      rw [HE2.out]
      exact ⟨rfl, B5.out⟩
    · have g1z : ¬ (1000000 : Int) < ((wrT t headC).length : Int) := by omega
      have hng : ¬ 1000000 < (headC ++ writeL t).length := fun h => g1 (HLW.out.1.2 h)
      have HE2 : Hid (wOut t = (wrT t headC, 0)) := by show _ = _; rw [HE.out, if_neg hng, HLW.out.2 (Nat.le_of_not_lt hng)]
      clear hng
      go_wp2_with (refine wpList_convert_known (by rfl) 51 9 _ (by rfl) (.slice p5 (wrT t headC).length c5) (.string ⟨(wrT t headC).toArray⟩) (by rfl) HTX.out ?_)
      go_ret2
      rw [HE2.out]
      exact ⟨rfl, B5.out⟩
end Go.Proofs.YtgmgghbocidibaaGreatDoor
