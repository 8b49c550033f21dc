/-
  SEVERAL SMALL TEXTS IN ONE.
-/
import Derived.Test.YtgmgghbocidibaaGreatDoorXmWr
import Derived.Lib.SlBytesConst
import Derived.Test.YtgmgghbocidibaaGreatDoorSm12
/-
  xml.Write: the document's text, or why not.
-/
namespace Go.Proofs.YtgmgghbocidibaaGreatDoor
open Go.RowKit Go.Lib Go.PlainAid

/-- what Write gives -/
def wOut (t : Tree) : Bs × Int := if okT t = false then ([], 55) else if 1000000 < (headC ++ writeL t).length then ([], 56) else (headC ++ writeL t, 0)
theorem own_textX {w : World} {base : Nat} {v : Value} {l : Bs} (h : OwnX w base v l) : (convert 51 9 v).run Tryz.prog w = .ok (.string ⟨l.toArray⟩) w := by
  cases h with
  | own h =>
    rcases h.2 with ⟨rfl, hz⟩ | ⟨g, cap, cur, rfl, _⟩
    · obtain rfl : l = [] := List.length_eq_zero_iff.1 hz
      rw [run_convert_bytes_string w 51 9 5 none 0 0 Tryz.underlying51 Tryz.underlying5 Tryz.underlying9]
      rfl
    · refine run_convert_bytes_back w _ _ _ _ cap l Tryz.underlying51 Tryz.underlying5 Tryz.underlying9 (fun j hj => ?_)
      have := h.cells (g := g) rfl j (.int .u8 (l[j]'hj).toNat) (by simp [byteCells, hj])
      exact this
  | full g fz hv hb hg =>
    subst hv
    refine run_convert_bytes_back w _ _ _ _ l.length l Tryz.underlying51 Tryz.underlying5 Tryz.underlying9 (fun j hj => ?_)
    rw [Addr.add_lit, Nat.zero_add, cell_of_row w g j _ 5 fz hg]
    simp [byteCells, hj]
theorem wpList_convert_to {P : Program} {ops : Array Oper} {rest : List Oper} {o : Oper} {a : Act} {w : World} {Q : Exit → Act → World → Prop} (hgd : o.guard = none) (src dst : TypeId) (x : Operand) (ho : o.op = .convert src dst x)
    (v v' : Value) (w' : World) (hx : a.eval x = v) (hr : (convert src dst v).run P w = .ok v' w') (h : wpList P ops Q rest (a.put o.dst v') w') : wpList P ops Q (o :: rest) a w :=
  wpList_plain hgd fun _ hK => by
    unfold Oper.wp execOp
    simp only [ho, hx, Sem.run_bind, Sem.run_pure, Result.andThen_ok, hr]
    exact hK _ _ h
structure WBox (w W : World) (es : Array Value) : Prop where
  below : Below w.heap.size w W
  box : W.heap[w.heap.size]? = some (.cells es 24 (0, 0))
theorem WBox.later {w W W' : World} {es : Array Value} (h : WBox w W es) (hb : Below W.heap.size W W') : WBox w W' es :=
  ⟨h.below.trans (hb.mono h.below.size), (hb.block _ (Array.getElem?_eq_some_iff.1 h.box).1).trans h.box⟩

set_option maxHeartbeats 4000000 in
set_option maxRecDepth 100000 in
theorem write_prog (t : Tree) (a : Option Addr) (c : Nat) (w : World) (h : ElemIn w t a c) (hG : GlobC w) (hS : okT t = true → SmT t) :
    Calls Tryz.prog 8 #[.agg (elC t a c)] w fun e w' => e = .returned (.tuple #[.string ⟨(wOut t).1.toArray⟩, .int .i64 (wOut t).2]) ∧ Below w.heap.size w w' := by
  have HT := Lib.hid h
  have HG := Lib.hid hG
  have HS := Lib.hid hS
  clear h hG hS
  obtain ⟨es, hes⟩ : ∃ es, elC t a c = es := ⟨_, rfl⟩
  obtain ⟨W0, hw0⟩ : ∃ W0, w.alloc (.cells #[.string t.name, .string t.text, .slice a t.kids.length c] 24) = W0 := ⟨_, rfl⟩
  have X0 : Hid (WBox w W0 (elC t a c)) := ⟨by rw [← hw0]; exact below_alloc (Below.refl _ _) (Nat.le_refl _) _, by rw [← hw0]; exact heap_alloc_new _ _⟩
  have HR := Lib.hid (isRight_any t a c W0 (HT.out.later X0.out.below) (HG.out.later X0.out.below))
  clear hes
  rw [show Value.agg (elC t a c) = .agg #[.string t.name, .string t.text, .slice a t.kids.length c] from rfl]
  go_enter Tryz.func8, Tryz.ntmps8
  go_wp2_with (refine wpList_load_row (by rfl) 24 _ (by rfl) w.heap.size (by rfl) 24 (elC t a c) (0, 0) _ (by exact X0.out.box) Tryz.underlying24 rfl (by kernel_rfl) ?_)
  refine HR.out.mono ?_
  rintro e W1 ⟨rfl, hb1⟩
  have X1 := Lib.hid (X0.out.later hb1)
  clear hb1 X0 HR hw0
  cases hok : okT t with
  | false =>
    have HE : Hid (wOut t = ([], 55)) := by show _ = _; unfold wOut; rw [if_pos hok]
    go_wp2_with fail
    go_ret2
    rw [HE.out]
    exact ⟨rfl, X1.out.below⟩
  | true =>
    have HE : Hid (wOut t = if 1000000 < (headC ++ writeL t).length then ([], 56) else (headC ++ writeL t, 0)) := by show _ = _; unfold wOut; rw [if_neg (by rw [hok]; decide)]
    have HSM := Lib.hid (HS.out hok)
    have HC := Lib.hid ((okT_iff t).1 hok).2
    clear hok HS
    obtain ⟨W2, hw2⟩ : ∃ W2, W1.alloc (.cells onC.toArray 9) = W2 := ⟨_, rfl⟩
    have HON : Hid (∀ j v, onC[j]? = some v → W2.cell? ⟨W1.heap.size, j, none⟩ = some v) := fun j v hj => by
      rw [← hw2]
      exact cell_at (heap_alloc_new _ _) (by simpa using hj)
    have X2 : Hid (WBox w W2 (elC t a c)) := X1.out.later (by rw [← hw2]; exact below_alloc (Below.refl _ _) (Nat.le_refl _) _)
    have HNR := Lib.hid (newReplacer_any (w := W2) (q := W1.heap.size) (c := 10) HON.out)
    go_wp2_with (refine wpList_known (by rfl) (.buildSlice 74 10 _) (by rfl) (.slice (some ⟨W1.heap.size, 0, none⟩) 10 10) W2 (by rw [← hw2]; kernel_rfl) ?_)
    refine HNR.out.mono ?_
    rintro e W3 ⟨R, g, cp, rfl, h1, h2, h3, h4, h5, h6⟩
    have X3 := Lib.hid (X2.out.later h6)
    have HRP : Hid (RepAt W3 R (fun k => W2.heap.size ≤ k ∧ k < W3.heap.size)) := .fresh g cp 0 h1 h2 h5.symm ⟨h3, (Array.getElem?_eq_some_iff.1 h1).1⟩ ⟨h4, World.block_lt_of_cell? _ _ (h2 0 _ rfl)⟩
    have HRW : Hid (w.heap.size ≤ R) := Nat.le_trans X2.out.below.size h3
    clear h1 h2 h3 h4 h5 h6 hw2 HON HNR
    obtain ⟨W4, hw4⟩ : ∃ W4, W3.alloc (.cells (byteCells headC).toArray 5 ((byteCells headC).toArray.size, (byteCells headC).toArray.size + 1)) = W4 := ⟨_, rfl⟩
    obtain ⟨V4, hv4⟩ : ∃ V4, W3.alloc (.cells (byteCells headC).toArray 5) = V4 := ⟨_, rfl⟩
    have B4 : Below W3.heap.size W3 W4 := by rw [← hw4]; exact below_alloc (Below.refl _ _) (Nat.le_refl _) _
    have X4 := Lib.hid (X3.out.later B4)
    have HOWN : Hid (WrAt w W4 R (.slice (some ⟨W3.heap.size, 0, none⟩) 39 39) headC) := by
      refine ⟨X4.out.below, .full W3.heap.size _ rfl X3.out.below.size (by rw [← hw4]; exact heap_alloc_new _ _), ⟨_, HRP.out.kept fun k hk _ => B4.block k hk, fun k hk => Nat.lt_of_lt_of_le hk.2 B4.size, fun g hg hK => ?_⟩, HRW.out⟩
      injection hg with hg
      have := hK.2
      simp only at hg
      omega
    have hb := write_bound t HSM.out
    have hcnt := HC.out
    have HWR := Lib.hid (write_any t w W4 R (.slice (some ⟨W3.heap.size, 0, none⟩) 39 39) headC a c HT.out HSM.out (by have : headC.length = 39 := rfl; omega) HOWN.out)
    clear hb hcnt B4
    have HCV : Hid ((convert 51 51 (.slice (some ⟨W3.heap.size, 0, none⟩) 39 39)).run Tryz.prog V4 = .ok (.slice (some ⟨W3.heap.size, 0, none⟩) 39 39) W4) := by
      show _ = _
      rw [← hv4, ← hw4]
      exact run_convert_bytes_const W3 51 5 _ 39 39 Tryz.underlying51 Tryz.underlying5
    go_wp2_with (first
      | (refine wpList_convert_to (by rfl) 51 51 _ (by rfl) (.slice (some ⟨W3.heap.size, 0, none⟩) 39 39) (.slice (some ⟨W3.heap.size, 0, none⟩) 39 39) W4 (by rfl) HCV.out ?_; clear hw4)
      | (refine wpList_known (by rfl) (.buildSlice 51 39 _) (by rfl) (.slice (some ⟨W3.heap.size, 0, none⟩) 39 39) V4 (by rw [← hv4]; kernel_rfl) ?_; clear hv4)
      | (refine wpList_load_row (by rfl) 24 _ (by rfl) w.heap.size (by rfl) 24 (elC t a c) (0, 0) _ (by exact X4.out.box) Tryz.underlying24 rfl (by kernel_rfl) ?_))
    refine HWR.out.mono ?_
    rintro e W5 ⟨v5, rfl, hA, hC, hN⟩
    have HA := Lib.hid hA
    have B5 : Hid (Below w.heap.size w W5) := hA.below
    clear hA hC hN HWR HOWN HRP X4 X3 X2 X1
    obtain ⟨p5, c5, rfl⟩ := HA.out.form
    have HTX := Lib.hid (own_textX HA.out.own)
    have HLW := Lib.hid (wr_head t)
    by_cases g1 : 1000000 < (wrT t headC).length
    · have g1z : (1000000 : Int) < ((wrT t headC).length : Int) := by omega
      have HE2 : Hid (wOut t = ([], 56)) := by show _ = _; rw [HE.out, if_pos (HLW.out.1.1 g1)]
      go_wp2_with fail
      go_ret2
      rw [HE2.out]
      exact ⟨rfl, B5.out⟩
    · have g1z : ¬ (1000000 : Int) < ((wrT t headC).length : Int) := by omega
      have hng : ¬ 1000000 < (headC ++ writeL t).length := fun h => g1 (HLW.out.1.2 h)
      have HE2 : Hid (wOut t = (wrT t headC, 0)) := by show _ = _; rw [HE.out, if_neg hng, HLW.out.2 (Nat.le_of_not_lt hng)]
      clear hng
      go_wp2_with (refine wpList_convert_known (by rfl) 51 9 _ (by rfl) (.slice p5 (wrT t headC).length c5) (.string ⟨(wrT t headC).toArray⟩) (by rfl) HTX.out ?_)
      go_ret2
      rw [HE2.out]
      exact ⟨rfl, B5.out⟩
end Go.Proofs.YtgmgghbocidibaaGreatDoor

/-
  storehouseref15.escaped.
-/
namespace Go.Proofs.YtgmgghbocidibaaGreatDoor
open Go.RowKit Go.Lib Go.PlainAid

theorem esc_at {s : Bs} {i : Nat} {b : UInt8} (h : s[i]? = some b) : escL (s.take (i + 1)) = escL (s.take i) ++ escB b := by
  rw [List.take_add_one, h, Option.toList_some, esc_append]
  simp [escL]
structure EscAt (w W : World) (v : Value) (l : Bs) : Prop where
  below : Below w.heap.size w W
  own : W.ownsRow w.heap.size 5 1 v l.length (Lib.byteCells l)
theorem EscAt.form {w W : World} {v : Value} {l : Bs} (h : EscAt w W v l) : ∃ p c, v = .slice p l.length c := by
  rcases h.own.2 with ⟨h1, h2⟩ | ⟨g, cap, cur, h1, _⟩
  · exact ⟨none, 0, by rw [h1, h2]⟩
  · exact ⟨_, _, h1⟩
theorem EscAt.later {w W W' : World} {v : Value} {l : Bs} (h : EscAt w W v l) (hb : Below W.heap.size W W') : EscAt w W' v l :=
  ⟨h.below.trans (hb.mono h.below.size), own_keep h.own fun k hk => hb.block k (h.own.lt k hk).2⟩
theorem EscAt.app {w W W' : World} {v v' : Value} {l s : Bs} {n : Nat} {xs : List Value} (h : EscAt w W v l) (ho : W'.ownsRow w.heap.size 5 1 v' n xs) (hn : n = l.length + s.length) (hx : xs = Lib.byteCells l ++ Lib.byteCells s) (hg : W.grownBy W' v.ownBlock) : EscAt w W' v' (l ++ s) := by
  refine ⟨h.below.trans ((Chg.grown hg).below h.below.size fun k e => (h.own.lt k e.symm).1), ?_⟩
  have e : Lib.byteCells (l ++ s) = xs := by rw [hx]; simp [Lib.byteCells]
  rw [e, List.length_append, ← hn]
  exact ho

set_option maxHeartbeats 4000000 in
set_option maxRecDepth 100000 in
theorem rEsc_any (s : Bs) (hs : s.length ≤ 4000000) (w : World) :
    Calls Tryz.prog 44 #[.string ⟨s.toArray⟩] w fun e w' => e = .returned (.string ⟨(escL s).toArray⟩) ∧ Below w.heap.size w w' := by
  obtain ⟨i0, hi, hz0, hz1, hz2⟩ := info_byte
  have HI := Lib.hid (⟨hi, hz0, hz1, hz2⟩ : Tryz.prog.info? 5 = some i0 ∧ i0.zero = some (.int .u8 0) ∧ i0.size = 1 ∧ i0.bytes = 1)
  have X0 : Hid (EscAt w w (.slice none 0 0) []) := ⟨Below.refl _ _, World.ownsRow_nil _ _ _ _⟩
  have HL := Lib.hid (esc_len s)
  go_enter Tryz.func44, Tryz.ntmps44
  go_wp2_with fail
  go_loopg [3, 4] s.length (fun gg s3 s4 wr => ∃ (i : Nat) (v : Value), i ≤ s.length ∧ s.length - i ≤ gg ∧ s4 = .int .i64 i ∧ s3 = v ∧ Hid (EscAt w wr v (escL (s.take i))))
  case atStart => exact ⟨0, .slice none 0 0, Nat.zero_le _, by omega, rfl, rfl, X0.out⟩
  case round =>
    obtain ⟨i, v, hil, hg, rfl, hv, XR⟩ := hrel
    have hv := hv.symm
    subst hv
    by_cases hlt : i < s.length
    · have hiz : (i : Int) < (s.length : Int) := by omega
      obtain ⟨b, hb⟩ : ∃ b, s[i]? = some b := ⟨_, List.getElem?_eq_getElem hlt⟩
      have HE := Lib.hid (esc_at hb)
      have HLE : Hid ((escL (s.take i)).length ≤ 24000000) := by
        have h1 := esc_len (s.take i)
        rw [List.length_take] at h1
        show _ ≤ _
        omega
      have hbw : ∀ h, (⟨s.toArray⟩ : ByteArray)[i]'h = b := fun _ => (List.getElem?_eq_some_iff.1 hb).2
      clear hb
      go_upto_region 7 with (fail)
      by_cases g38 : b = 38
      · subst g38
        go_wp2_with (at_builtin; skip; refine wpList_append_string_at _ rfl _ _ 51 9 rfl w.heap.size 5 i0 Tryz.underlying51 Tryz.underlying9 hi hz0 hz1 hz2 v _ (Lib.byteCells (escL (s.take i))) (by rfl) XR.out.own ⟨#[38, 97, 109, 112, 59]⟩ (by rfl) ?c3 ?c4 ?c5 ?_)
        case c3 => have := HLE.out; have hz : (escL (s.take i)).length + 5 ≤ maxLen := (by unfold maxLen; omega); exact hz
        case c4 => have := HLE.out; omega
        case c5 => exact XR.out.below.size
        intro v1 W1 hown hgr hat
        have X1 : Hid (EscAt w W1 v1 (escL (s.take (i + 1)))) := by
          show EscAt _ _ _ _
          rw [HE.out]
          exact XR.out.app (s := escB 38) hown rfl rfl hgr
        clear hown hgr hat
        go_wp2_with fail
        go_roundg (s.length - (i + 1))
        case measure => omega
        case rel => exact ⟨i + 1, v1, by omega, Nat.le_refl _, by go_num, rfl, X1.out⟩
      have z38 : ¬ (b.toNat : Int) = 38 := fun e => g38 (UInt8.toNat_inj.1 (show b.toNat = 38 from Int.ofNat.inj e))
      have y38 : ((b.toNat : Int) == 38) = false := beq_eq_false_iff_ne.2 z38
      by_cases g60 : b = 60
      · subst g60
        go_wp2_with (at_builtin; skip; refine wpList_append_string_at _ rfl _ _ 51 9 rfl w.heap.size 5 i0 Tryz.underlying51 Tryz.underlying9 hi hz0 hz1 hz2 v _ (Lib.byteCells (escL (s.take i))) (by rfl) XR.out.own ⟨#[38, 108, 116, 59]⟩ (by rfl) ?c3 ?c4 ?c5 ?_)
        case c3 => have := HLE.out; have hz : (escL (s.take i)).length + 4 ≤ maxLen := (by unfold maxLen; omega); exact hz
        case c4 => have := HLE.out; omega
        case c5 => exact XR.out.below.size
        intro v1 W1 hown hgr hat
        have X1 : Hid (EscAt w W1 v1 (escL (s.take (i + 1)))) := by
          show EscAt _ _ _ _
          rw [HE.out]
          exact XR.out.app (s := escB 60) hown rfl rfl hgr
        clear hown hgr hat
        go_wp2_with fail
        go_roundg (s.length - (i + 1))
        case measure => omega
        case rel => exact ⟨i + 1, v1, by omega, Nat.le_refl _, by go_num, rfl, X1.out⟩
      have z60 : ¬ (b.toNat : Int) = 60 := fun e => g60 (UInt8.toNat_inj.1 (show b.toNat = 60 from Int.ofNat.inj e))
      have y60 : ((b.toNat : Int) == 60) = false := beq_eq_false_iff_ne.2 z60
      by_cases g62 : b = 62
      · subst g62
        go_wp2_with (at_builtin; skip; refine wpList_append_string_at _ rfl _ _ 51 9 rfl w.heap.size 5 i0 Tryz.underlying51 Tryz.underlying9 hi hz0 hz1 hz2 v _ (Lib.byteCells (escL (s.take i))) (by rfl) XR.out.own ⟨#[38, 103, 116, 59]⟩ (by rfl) ?c3 ?c4 ?c5 ?_)
        case c3 => have := HLE.out; have hz : (escL (s.take i)).length + 4 ≤ maxLen := (by unfold maxLen; omega); exact hz
        case c4 => have := HLE.out; omega
        case c5 => exact XR.out.below.size
        intro v1 W1 hown hgr hat
        have X1 : Hid (EscAt w W1 v1 (escL (s.take (i + 1)))) := by
          show EscAt _ _ _ _
          rw [HE.out]
          exact XR.out.app (s := escB 62) hown rfl rfl hgr
        clear hown hgr hat
        go_wp2_with fail
        go_roundg (s.length - (i + 1))
        case measure => omega
        case rel => exact ⟨i + 1, v1, by omega, Nat.le_refl _, by go_num, rfl, X1.out⟩
      have z62 : ¬ (b.toNat : Int) = 62 := fun e => g62 (UInt8.toNat_inj.1 (show b.toNat = 62 from Int.ofNat.inj e))
      have y62 : ((b.toNat : Int) == 62) = false := beq_eq_false_iff_ne.2 z62
      by_cases g34 : b = 34
      · subst g34
        go_wp2_with (at_builtin; skip; refine wpList_append_string_at _ rfl _ _ 51 9 rfl w.heap.size 5 i0 Tryz.underlying51 Tryz.underlying9 hi hz0 hz1 hz2 v _ (Lib.byteCells (escL (s.take i))) (by rfl) XR.out.own ⟨#[38, 113, 117, 111, 116, 59]⟩ (by rfl) ?c3 ?c4 ?c5 ?_)
        case c3 => have := HLE.out; have hz : (escL (s.take i)).length + 6 ≤ maxLen := (by unfold maxLen; omega); exact hz
        case c4 => have := HLE.out; omega
        case c5 => exact XR.out.below.size
        intro v1 W1 hown hgr hat
        have X1 : Hid (EscAt w W1 v1 (escL (s.take (i + 1)))) := by
          show EscAt _ _ _ _
          rw [HE.out]
          exact XR.out.app (s := escB 34) hown rfl rfl hgr
        clear hown hgr hat
        go_wp2_with fail
        go_roundg (s.length - (i + 1))
        case measure => omega
        case rel => exact ⟨i + 1, v1, by omega, Nat.le_refl _, by go_num, rfl, X1.out⟩
      have z34 : ¬ (b.toNat : Int) = 34 := fun e => g34 (UInt8.toNat_inj.1 (show b.toNat = 34 from Int.ofNat.inj e))
      have y34 : ((b.toNat : Int) == 34) = false := beq_eq_false_iff_ne.2 z34
      by_cases g13 : b = 13
      · subst g13
        go_wp2_with (at_builtin; skip; refine wpList_append_string_at _ rfl _ _ 51 9 rfl w.heap.size 5 i0 Tryz.underlying51 Tryz.underlying9 hi hz0 hz1 hz2 v _ (Lib.byteCells (escL (s.take i))) (by rfl) XR.out.own ⟨#[38, 35, 49, 51, 59]⟩ (by rfl) ?c3 ?c4 ?c5 ?_)
        case c3 => have := HLE.out; have hz : (escL (s.take i)).length + 5 ≤ maxLen := (by unfold maxLen; omega); exact hz
        case c4 => have := HLE.out; omega
        case c5 => exact XR.out.below.size
        intro v1 W1 hown hgr hat
        have X1 : Hid (EscAt w W1 v1 (escL (s.take (i + 1)))) := by
          show EscAt _ _ _ _
          rw [HE.out]
          exact XR.out.app (s := escB 13) hown rfl rfl hgr
        clear hown hgr hat
        go_wp2_with fail
        go_roundg (s.length - (i + 1))
        case measure => omega
        case rel => exact ⟨i + 1, v1, by omega, Nat.le_refl _, by go_num, rfl, X1.out⟩
      have z13 : ¬ (b.toNat : Int) = 13 := fun e => g13 (UInt8.toNat_inj.1 (show b.toNat = 13 from Int.ofNat.inj e))
      have y13 : ((b.toNat : Int) == 13) = false := beq_eq_false_iff_ne.2 z13
      have HEB : Hid (escB b = [b]) := by show _ = _; unfold escB; rw [if_neg g38, if_neg g60, if_neg g62, if_neg g34, if_neg g13]
      have X1 := Lib.hid (XR.out.later (below_alloc (Below.refl _ _) (Nat.le_refl _) (.cells #[.int .u8 b.toNat] 5)))
      have hc1 : Hid ((wr.alloc (.cells #[.int .u8 b.toNat] 5)).heap[wr.heap.size]? = some (.cells #[.int .u8 b.toNat] 5 (0, 0))) := heap_alloc_new _ _
      go_wp2_with (at_builtin; skip; refine wpList_append_lies _ (by rfl) _ _ 51 (by rfl) w.heap.size 5 i0 _ 1 1 Tryz.underlying51 hi hz0 hz1 hz2 rfl (by decide) v (escL (s.take i)).length (Lib.byteCells (escL (s.take i))) (by rfl) X1.out.own ⟨wr.heap.size, 0, none⟩ 1 1 [.int .u8 b.toNat] (by rfl) (by rfl) ?c1 ?c2 (by decide) ?c3 ?c4 ?c5 _ rfl ?_)
      try (case c1 => exact fun j u hj => by rw [Addr.add_lit, Nat.zero_add]; exact cell_at hc1.out (by simpa using hj))
      try (case c2 => simp [Value.oneCell'])
      case c3 => have := HLE.out; unfold maxLen; omega
      case c4 => have := HLE.out; omega
      case c5 => have := X1.out.below.size; simpa using this
      intro g cap W1 hown hgr hat hlt1
      have X2 : Hid (EscAt w W1 (.slice (some ⟨g, 0, none⟩) ((escL (s.take i)).length + 1) cap) (escL (s.take (i + 1)))) := by
        show EscAt _ _ _ _
        rw [HE.out, HEB.out]
        exact X1.out.app (s := [b]) hown rfl rfl hgr
      clear hown hgr hat
      go_wp2_with fail
      go_roundg (s.length - (i + 1))
      case measure => omega
      case rel => exact ⟨i + 1, _, by omega, Nat.le_refl _, by go_num, rfl, X2.out⟩
    · have hiz : ¬ (i : Int) < (s.length : Int) := by omega
      obtain rfl : i = s.length := by omega
      rw [List.take_length] at XR
      obtain ⟨p, cp, rfl⟩ := XR.out.form
      have HTX := Lib.hid (own_textX (.own XR.out.own))
      go_wp2_with (refine wpList_convert_known (by rfl) 51 9 _ (by rfl) (.slice p (escL s).length cp) (.string ⟨(escL s).toArray⟩) (by rfl) HTX.out ?_)
      go_ret
      exact ⟨rfl, XR.out.below⟩
end Go.Proofs.YtgmgghbocidibaaGreatDoor
