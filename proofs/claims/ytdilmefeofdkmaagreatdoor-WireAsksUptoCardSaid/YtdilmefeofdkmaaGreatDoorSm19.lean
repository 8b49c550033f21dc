/-
  SEVERAL SMALL TEXTS IN ONE.
-/
import Derived.Test.YtdilmefeofdkmaaGreatDoorWiAllLaw
import Derived.Test.YtdilmefeofdkmaaGreatDoorSm6
import Derived.Test.YtdilmefeofdkmaaGreatDoorShelf
import Derived.Test.YtdilmefeofdkmaaGreatDoorSm15
import Derived.Deep.AppendLies
/-
  WIRE: requests that were told are read; two of them are the same (storehouseref16.Same).
-/
namespace Go.Proofs.YtdilmefeofdkmaaGreatDoor
open Go.RowKit

theorem ReqRows.get {w : World} {ok : Nat → Prop} : ∀ {qs : List ReqV} {xs : List Value}, ReqRows w ok qs xs → ∀ {i : Nat} {q : ReqV}, qs[i]? = some q → ∃ v, xs[i * 6]? = some (.string ⟨q.meth.toArray⟩) ∧ xs[i * 6 + 1]? = some (.string ⟨q.target.toArray⟩) ∧ xs[i * 6 + 2]? = some (.int .i64 q.minor) ∧ xs[i * 6 + 3]? = some v ∧ xs[i * 6 + 4]? = some (.string ⟨q.body.toArray⟩) ∧ xs[i * 6 + 5]? = some (.bool q.close) ∧
      w.ownsRow 0 58 2 v q.fields.length (pairCells q.fields) ∧ ∀ b, v.ownBlock = some b → ok b
  | [], _, _, i, q, h => by simp at h
  | q0 :: qs, xs, ⟨v, r, h1, h2, h3, h4⟩, 0, q, h => by
    simp only [List.getElem?_cons_zero, Option.some.injEq] at h
    subst h h1
    exact ⟨v, rfl, rfl, rfl, rfl, rfl, rfl, h2, h3⟩
  | q0 :: qs, xs, ⟨v, r, h1, h2, h3, h4⟩, i + 1, q, h => by
    obtain ⟨v', k⟩ := ReqRows.get h4 (i := i) (q := q) (by simpa using h)
    subst h1
    refine ⟨v', ?_⟩
    rw [show (i + 1) * 6 = i * 6 + 6 from by omega]
    exact k

/-- a request that was told, in memory -/
theorem ReqsAt.at {w : World} {v : Value} {qs : List ReqV} {K : Nat → Prop} (h : ReqsAt w v qs K) {i : Nat} {q : ReqV} (hi : qs[i]? = some q) : ∃ g c vf, v = .slice (some ⟨g, 0, none⟩) qs.length c ∧ w.cell? ⟨g, i * 6, none⟩ = some (.string ⟨q.meth.toArray⟩) ∧ w.cell? ⟨g, i * 6 + 1, none⟩ = some (.string ⟨q.target.toArray⟩) ∧ w.cell? ⟨g, i * 6 + 2, none⟩ = some (.int .i64 q.minor) ∧ w.cell? ⟨g, i * 6 + 3, none⟩ = some vf ∧ w.cell? ⟨g, i * 6 + 4, none⟩ = some (.string ⟨q.body.toArray⟩) ∧ w.cell? ⟨g, i * 6 + 5, none⟩ = some (.bool q.close) ∧ w.ownsRow 0 58 2 vf q.fields.length (pairCells q.fields) ∧ (∀ b, vf.ownBlock = some b → K b) := by
  obtain ⟨xs, h1, h2, h3⟩ := h
  obtain ⟨vf, k0, k1, k2, k3, k4, k5, k6, k7⟩ := h2.get hi
  have hlt := (List.getElem?_eq_some_iff.1 hi).1
  obtain ⟨g, c, hv, _, _⟩ := h1.form (by omega)
  have hc : ∀ j u, xs[j]? = some u → w.cell? ⟨g, j, none⟩ = some u := fun j u hj => by
    have := h1.cells (g := g) (by rw [hv]; rfl) j u hj
    rwa [Addr.add_lit, Nat.zero_add] at this
  exact ⟨g, c, vf, hv, hc _ _ k0, hc _ _ k1, hc _ _ k2, hc _ _ k3, hc _ _ k4, hc _ _ k5, k6, k7⟩
theorem ReqsAt.form {w : World} {v : Value} {qs : List ReqV} {K : Nat → Prop} (h : ReqsAt w v qs K) : ∃ a c, v = .slice a qs.length c := by
  obtain ⟨xs, h1, _⟩ := h
  exact row_form h1
theorem ReqsAt.later {w w' : World} {v : Value} {qs : List ReqV} {K : Nat → Prop} (h : ReqsAt w v qs K) (hb : Below w.heap.size w w') : ReqsAt w' v qs K := h.kept fun b hl _ => hb.block b hl
theorem pairs_own {w : World} {v : Value} {fs : List (List UInt8 × List UInt8)} (h : w.ownsRow 0 58 2 v fs.length (pairCells fs)) (hl : fs.length ≤ 140737488351232) : PairsAt w v fs := by
  obtain ⟨a, c, hv⟩ := row_form h
  refine ⟨a, c, hv, ?_, hl, fun i f hf => ?_⟩
  · rcases h.2 with ⟨h1, h2⟩ | ⟨g, cap, cur, h1, _, _, h2, _⟩
    · rw [h2]; exact Nat.zero_le _
    · rw [hv] at h1; injection h1 with _ _ e; rw [e]; exact h2
  · have hlt := (List.getElem?_eq_some_iff.1 hf).1
    obtain ⟨g, c', hv2, _, _⟩ := h.form (by omega)
    have k1 := h.cells (g := g) (by rw [hv2]; rfl) _ _ (pair_get hf).1
    have k2 := h.cells (g := g) (by rw [hv2]; rfl) _ _ (pair_get hf).2
    rw [Addr.add_lit, Nat.zero_add] at k1 k2
    rw [hv] at hv2
    injection hv2 with e1 _ _
    exact ⟨g, 0, e1, by rw [Nat.zero_add]; exact k1, by rw [Nat.zero_add]; exact k2⟩

/-- '==' of pairs -/
theorem eqin_pair (p q : List UInt8 × List UInt8) (w : World) : (Op.equalIn 10000 58 (.agg #[.string ⟨p.1.toArray⟩, .string ⟨p.2.toArray⟩]) (.agg #[.string ⟨q.1.toArray⟩, .string ⟨q.2.toArray⟩])).run Tryz.prog w = .ok (decide (p = q)) w := by
  have hS : Tryz.prog.underlying 58 = some (.struct (Tryz.prog.fieldsOf 58)) := by kernel_rfl
  have hp : Tryz.prog.stoodInHeld 58 = false := by kernel_rfl
  rw [show (10000 : Nat) = 9999 + 1 from rfl, run_equalIn_agg w 9999 58 _ _ hS hp]
  simp only [Program.fieldsOf, Tryz.underlying58]
  obtain ⟨a, b⟩ := p
  obtain ⟨a', b'⟩ := q
  by_cases h1 : a = a'
  · subst h1
    by_cases h2 : b = b'
    · subst h2
      go_simp
    · have e : ((⟨b.toArray⟩ : ByteArray) == ⟨b'.toArray⟩) = false := by rw [str_beq]; simp [h2]
      go_simp
  · have e : ((⟨a.toArray⟩ : ByteArray) == ⟨a'.toArray⟩) = false := by rw [str_beq]; simp [h1]
    go_simp
theorem neq_pair (p q : List UInt8 × List UInt8) (w : World) : (binOp .neq 58 (.agg #[.string ⟨p.1.toArray⟩, .string ⟨p.2.toArray⟩]) (.agg #[.string ⟨q.1.toArray⟩, .string ⟨q.2.toArray⟩])).run Tryz.prog w = .ok (.bool (!decide (p = q))) w := by
  rw [run_neq_struct, eqin_pair]; rfl

abbrev reqAgg (q : ReqV) (v : Value) : Value := .agg #[.string ⟨q.meth.toArray⟩, .string ⟨q.target.toArray⟩, .int .i64 q.minor, v, .string ⟨q.body.toArray⟩, .bool q.close]

end Go.Proofs.YtdilmefeofdkmaaGreatDoor

/-
  WIRE: storehouseref16.Same. (Printed by wip/gen/wisame.py.)
-/
namespace Go.Proofs.YtdilmefeofdkmaaGreatDoor
open Go.RowKit

theorem take_all {α : Type} [DecidableEq α] {a b : List α} (hl : a.length = b.length) {i : Nat} (h : a.take i = b.take i) (hi : i = b.length) : a = b := by
  subst hi
  rw [List.take_of_length_le (by omega), List.take_of_length_le (by omega)] at h
  exact h

set_option maxHeartbeats 4000000 in
set_option maxRecDepth 100000 in
theorem same_any (a b : ReqV) (va vb : Value) (w : World) (ha : PairsAt w va a.fields) (hb : PairsAt w vb b.fields) :
    Calls Tryz.prog 12 #[reqAgg a va, reqAgg b vb] w fun e w' => e = .returned (.bool (decide (a = b))) ∧ Below w.heap.size w w' := by
  obtain ⟨a1, c1, rfl, _, hl1, k1⟩ := ha
  obtain ⟨a2, c2, rfl, _, hl2, k2⟩ := hb
  obtain ⟨am, at', ami, af, ab, ac⟩ := a
  obtain ⟨bm, bt', bmi, bf, bb, bc⟩ := b
  simp only at hl1 hl2 k1 k2
  obtain ⟨w1, hw1⟩ : ∃ w1, (w.alloc (.cells #[.string ⟨am.toArray⟩, .string ⟨at'.toArray⟩, .int .i64 ami, .slice a1 af.length c1, .string ⟨ab.toArray⟩, .bool ac] 31)).alloc (.cells #[.string ⟨bm.toArray⟩, .string ⟨bt'.toArray⟩, .int .i64 bmi, .slice a2 bf.length c2, .string ⟨bb.toArray⟩, .bool bc] 31) = w1 := ⟨_, rfl⟩
  have HB : Hid (Below w.heap.size w w1) := by rw [← hw1]; exact below_alloc (below_alloc (Below.refl _ _) (Nat.le_refl _) _) (by simp) _
  have hx1 : w1.heap[w.heap.size]? = some (.cells #[.string ⟨am.toArray⟩, .string ⟨at'.toArray⟩, .int .i64 ami, .slice a1 af.length c1, .string ⟨ab.toArray⟩, .bool ac] 31 (0, 0)) := by
    rw [← hw1]; exact (Below.heap_alloc _ _ _ (by simp)).trans (heap_alloc_new _ _)
  have hx2 : w1.heap[w.heap.size + 1]? = some (.cells #[.string ⟨bm.toArray⟩, .string ⟨bt'.toArray⟩, .int .i64 bmi, .slice a2 bf.length c2, .string ⟨bb.toArray⟩, .bool bc] 31 (0, 0)) := by
    rw [← hw1]; exact heap_at1 _ _ _
  have p0 : w1.cell? ⟨w.heap.size, 0, none⟩ = some (.string ⟨am.toArray⟩) := cell_of_heap hx1
  have q0 : w1.cell? ⟨w.heap.size + 1, 0, none⟩ = some (.string ⟨bm.toArray⟩) := cell_of_heap hx2
  have p1 : w1.cell? ⟨w.heap.size, 1, none⟩ = some (.string ⟨at'.toArray⟩) := cell_of_heap hx1
  have q1 : w1.cell? ⟨w.heap.size + 1, 1, none⟩ = some (.string ⟨bt'.toArray⟩) := cell_of_heap hx2
  have p2 : w1.cell? ⟨w.heap.size, 2, none⟩ = some (.int .i64 ami) := cell_of_heap hx1
  have q2 : w1.cell? ⟨w.heap.size + 1, 2, none⟩ = some (.int .i64 bmi) := cell_of_heap hx2
  have p3 : w1.cell? ⟨w.heap.size, 3, none⟩ = some (.slice a1 af.length c1) := cell_of_heap hx1
  have q3 : w1.cell? ⟨w.heap.size + 1, 3, none⟩ = some (.slice a2 bf.length c2) := cell_of_heap hx2
  have p4 : w1.cell? ⟨w.heap.size, 4, none⟩ = some (.string ⟨ab.toArray⟩) := cell_of_heap hx1
  have q4 : w1.cell? ⟨w.heap.size + 1, 4, none⟩ = some (.string ⟨bb.toArray⟩) := cell_of_heap hx2
  have p5 : w1.cell? ⟨w.heap.size, 5, none⟩ = some (.bool ac) := cell_of_heap hx1
  have q5 : w1.cell? ⟨w.heap.size + 1, 5, none⟩ = some (.bool bc) := cell_of_heap hx2
  have K1 := Lib.hid k1
  have K2 := Lib.hid k2
  have HW1 := Lib.hid hw1
  clear k1 k2 hx1 hx2 hw1
  go_enter Tryz.func12, Tryz.ntmps12
  go_upto_region 1 with (fail)
  rw [HW1.out]
  by_cases h_meth : am = bm
  case neg =>
    have HD : Hid (decide ((⟨am, at', ami, af, ab, ac⟩ : ReqV) = ⟨bm, bt', bmi, bf, bb, bc⟩) = false) := by
      show _ = _
      rw [decide_eq_false_iff_not]
      intro h
      injection h with e1 e2 e3 e4 e5 e6
      exact h_meth e1
    have hbf : (am == bm) = false := by rw [beq_eq_false_iff_ne]; exact h_meth
    have hbn : (am != bm) = true := by rw [bne, hbf]; rfl
    go_wp2_with fail
    go_ret
    refine ⟨?_, HB.out⟩
    first | rfl | (rw [HD.out]; rfl) | (simp_all; done)
  subst h_meth
  by_cases h_target : at' = bt'
  case neg =>
    have HD : Hid (decide ((⟨am, at', ami, af, ab, ac⟩ : ReqV) = ⟨am, bt', bmi, bf, bb, bc⟩) = false) := by
      show _ = _
      rw [decide_eq_false_iff_not]
      intro h
      injection h with e1 e2 e3 e4 e5 e6
      exact h_target e2
    have hbf : (at' == bt') = false := by rw [beq_eq_false_iff_ne]; exact h_target
    have hbn : (at' != bt') = true := by rw [bne, hbf]; rfl
    go_wp2_with fail
    go_ret
    refine ⟨?_, HB.out⟩
    first | rfl | (rw [HD.out]; rfl) | (simp_all; done)
  subst h_target
  by_cases h_minor : ami = bmi
  case neg =>
    have HD : Hid (decide ((⟨am, at', ami, af, ab, ac⟩ : ReqV) = ⟨am, at', bmi, bf, bb, bc⟩) = false) := by
      show _ = _
      rw [decide_eq_false_iff_not]
      intro h
      injection h with e1 e2 e3 e4 e5 e6
      exact h_minor e3
    have hbf : (ami == bmi) = false := by rw [beq_eq_false_iff_ne]; exact h_minor
    have hbn : (ami != bmi) = true := by rw [bne, hbf]; rfl
    go_wp2_with fail
    go_ret
    refine ⟨?_, HB.out⟩
    first | rfl | (rw [HD.out]; rfl) | (simp_all; done)
  subst h_minor
  by_cases h_body : ab = bb
  case neg =>
    have HD : Hid (decide ((⟨am, at', ami, af, ab, ac⟩ : ReqV) = ⟨am, at', ami, bf, bb, bc⟩) = false) := by
      show _ = _
      rw [decide_eq_false_iff_not]
      intro h
      injection h with e1 e2 e3 e4 e5 e6
      exact h_body e5
    have hbf : (ab == bb) = false := by rw [beq_eq_false_iff_ne]; exact h_body
    have hbn : (ab != bb) = true := by rw [bne, hbf]; rfl
    go_wp2_with fail
    go_ret
    refine ⟨?_, HB.out⟩
    first | rfl | (rw [HD.out]; rfl) | (simp_all; done)
  subst h_body
  by_cases h_close : ac = bc
  case neg =>
    have HD : Hid (decide ((⟨am, at', ami, af, ab, ac⟩ : ReqV) = ⟨am, at', ami, bf, ab, bc⟩) = false) := by
      show _ = _
      rw [decide_eq_false_iff_not]
      intro h
      injection h with e1 e2 e3 e4 e5 e6
      exact h_close e6
    have hbf : (ac == bc) = false := by rw [beq_eq_false_iff_ne]; exact h_close
    have hbn : (ac != bc) = true := by rw [bne, hbf]; rfl
    go_wp2_with fail
    go_ret
    refine ⟨?_, HB.out⟩
    first | rfl | (rw [HD.out]; rfl) | (simp_all; done)
  subst h_close
  by_cases h_len : af.length = bf.length
  case neg =>
    have HD : Hid (decide ((⟨am, at', ami, af, ab, ac⟩ : ReqV) = ⟨am, at', ami, bf, ab, ac⟩) = false) := by
      show _ = _
      rw [decide_eq_false_iff_not]
      intro h
      injection h with e1 e2 e3 e4 e5 e6
      exact h_len (by rw [e4])
    have hbf : ((af.length : Int) == (bf.length : Int)) = false := by rw [beq_eq_false_iff_ne]; omega
    have hbn : ((af.length : Int) != (bf.length : Int)) = true := by rw [bne, hbf]; rfl
    have HNE : Hid (¬ af = bf) := fun e => h_len (by rw [e])
    clear h_len
    go_wp2_with fail
    go_ret
    refine ⟨?_, HB.out⟩
    first | rfl | (rw [HD.out]; rfl) | (simp; exact HNE.out)
  have hlz : (af.length : Int) = (bf.length : Int) := by omega
  have hbt : ((af.length : Int) == (bf.length : Int)) = true := by rw [beq_iff_eq]; exact hlz
  have hbn : ((af.length : Int) != (bf.length : Int)) = false := by rw [bne, hbt]; rfl
  have HLEN := Lib.hid h_len
  clear h_len hlz
  go_upto_region 3 with (fail)
  clear hbt hbn
  go_wp2
  go_loopg [5] bf.length (fun gg s5 wr => ∃ i : Nat, i ≤ bf.length ∧ bf.length - i ≤ gg ∧ s5 = .int .i64 i ∧ Hid (Below w1.heap.size w1 wr) ∧ Hid (af.take i = bf.take i))
  case atStart => exact ⟨0, Nat.zero_le _, by omega, rfl, Below.refl _ _, rfl⟩
  case round =>
    obtain ⟨i, hin, hg, rfl, BR, HT⟩ := hrel
    have p3 : wr.cell? ⟨w.heap.size, 3, none⟩ = some (.slice a1 af.length c1) := cell_later BR.out p3
    have q3 : wr.cell? ⟨w.heap.size + 1, 3, none⟩ = some (.slice a2 bf.length c2) := cell_later BR.out q3
    have hle := HLEN.out
    by_cases hlt : i < bf.length
    · have hlt1 : i < af.length := by omega
      have hz1 : (i : Int) < (af.length : Int) := by omega
      have hz2 : (i : Int) < (bf.length : Int) := by omega
      obtain ⟨f, hf⟩ : ∃ f, af[i]? = some f := ⟨_, List.getElem?_eq_getElem hlt1⟩
      obtain ⟨g, hgf⟩ : ∃ g, bf[i]? = some g := ⟨_, List.getElem?_eq_getElem hlt⟩
      obtain ⟨b1, o1, rfl, x0, x1⟩ := K1.out i f hf
      obtain ⟨b2, o2, rfl, y0, y1⟩ := K2.out i g hgf
      have e0 := cell_later (HB.out.trans (BR.out.mono HB.out.size)) x0
      have e1 := cell_later (HB.out.trans (BR.out.mono HB.out.size)) x1
      have e2 := cell_later (HB.out.trans (BR.out.mono HB.out.size)) y0
      have e3 := cell_later (HB.out.trans (BR.out.mono HB.out.size)) y1
      have HTA : Hid (af.take (i + 1) = af.take i ++ [f] ∧ bf.take (i + 1) = bf.take i ++ [g]) := ⟨by rw [List.take_add_one, hf]; rfl, by rw [List.take_add_one, hgf]; rfl⟩
      have hne := fun W => neq_pair f g W
      have HMF := Lib.hid (List.mem_of_getElem? hf)
      have HFG := Lib.hid hf
      have HGG := Lib.hid hgf
      clear x0 x1 y0 y1 hf hgf hlt hlt1 hle
      by_cases hfg : f = g
      · have HFE := Lib.hid hfg
        have hne2 : ∀ W, (binOp .neq 58 (.agg #[.string ⟨f.1.toArray⟩, .string ⟨f.2.toArray⟩]) (.agg #[.string ⟨g.1.toArray⟩, .string ⟨g.2.toArray⟩])).run Tryz.prog W = .ok (.bool false) W := fun W => by rw [hne W, decide_eq_true HFE.out]; rfl
        clear hne hfg
        go_wp2
        go_region
        go_wp2
        go_roundg (bf.length - (i + 1))
        case measure => omega
        case rel => exact ⟨i + 1, by omega, by omega, by go_num, Below.drew BR.out, (by show _ = _; rw [HTA.out.1, HTA.out.2, HT.out, HFE.out])⟩
      · have HD : Hid (decide ((⟨am, at', ami, af, ab, ac⟩ : ReqV) = ⟨am, at', ami, bf, ab, ac⟩) = false) := by
          show _ = _
          rw [decide_eq_false_iff_not]
          intro h
          injection h with e1 e2 e3 e4 e5 e6
          have h1 := HFG.out
          rw [e4, HGG.out] at h1
          exact hfg (Option.some.inj h1).symm
        have hne2 : ∀ W, (binOp .neq 58 (.agg #[.string ⟨f.1.toArray⟩, .string ⟨f.2.toArray⟩]) (.agg #[.string ⟨g.1.toArray⟩, .string ⟨g.2.toArray⟩])).run Tryz.prog W = .ok (.bool true) W := fun W => by rw [hne W, decide_eq_false hfg]; rfl
        clear hne hfg
        go_wp2
        go_region
        go_wp2
        go_ret
        refine ⟨?_, HB.out.trans (Below.drew BR.out |>.mono HB.out.size)⟩
        first | rfl | (rw [HD.out]; rfl) | (simp_all; done)
    · have he : i = bf.length := by omega
      have HD : Hid (decide ((⟨am, at', ami, af, ab, ac⟩ : ReqV) = ⟨am, at', ami, bf, ab, ac⟩) = true) := by
        show _ = _
        rw [decide_eq_true_iff, take_all HLEN.out HT.out he]
      have hz1 : (af.length : Int) ≤ (i : Int) := by omega
      go_wp2
      go_ret
      refine ⟨?_, HB.out.trans (BR.out.mono HB.out.size)⟩
      first | rfl | (rw [HD.out]; rfl) | (simp_all; done)

end Go.Proofs.YtdilmefeofdkmaaGreatDoor

/-
  WIRE: slices.Equal and slices.Clone at pairs.
-/
namespace Go.Proofs.YtdilmefeofdkmaaGreatDoor
open Go.RowKit

set_option maxHeartbeats 4000000 in
set_option maxRecDepth 100000 in
theorem pairsEq_any (af bf : List (List UInt8 × List UInt8)) (va vb : Value) (w : World) (ha : PairsAt w va af) (hb : PairsAt w vb bf) :
    Calls Tryz.prog 53 #[va, vb] w fun e w' => e = .returned (.bool (decide (af = bf))) ∧ Below w.heap.size w w' := by
  obtain ⟨a1, c1, rfl, _, hl1, k1⟩ := ha
  obtain ⟨a2, c2, rfl, _, hl2, k2⟩ := hb
  have K1 := Lib.hid k1
  have K2 := Lib.hid k2
  clear k1 k2
  go_enter Tryz.func53, Tryz.ntmps53
  go_upto_region 1 with (fail)
  by_cases h_len : af.length = bf.length
  case neg =>
    have HD : Hid (decide (af = bf) = false) := by
      show _ = _
      rw [decide_eq_false_iff_not]
      intro h
      exact h_len (by rw [h])
    have hbf : ((af.length : Int) == (bf.length : Int)) = false := by rw [beq_eq_false_iff_ne]; omega
    have hbn : ((af.length : Int) != (bf.length : Int)) = true := by rw [bne, hbf]; rfl
    clear h_len
    go_wp2_with fail
    go_ret
    exact ⟨by rw [HD.out]; rfl, Below.refl _ _⟩
  have hlz : (af.length : Int) = (bf.length : Int) := by omega
  have hbt : ((af.length : Int) == (bf.length : Int)) = true := by rw [beq_iff_eq]; exact hlz
  have hbn : ((af.length : Int) != (bf.length : Int)) = false := by rw [bne, hbt]; rfl
  have HLEN := Lib.hid h_len
  clear h_len hlz
  go_upto_region 3 with (fail)
  clear hbt hbn
  go_wp2
  go_loopg [5, 13] bf.length (fun gg _ s13 wr => ∃ i : Nat, i ≤ bf.length ∧ bf.length - i ≤ gg ∧ s13 = .int .i64 i ∧ Hid (Below w.heap.size w wr) ∧ Hid (af.take i = bf.take i))
  case atStart => exact ⟨0, Nat.zero_le _, by omega, rfl, Below.refl _ _, rfl⟩
  case round =>
    obtain ⟨i, hin, hg, rfl, BR, HT⟩ := hrel
    have hle := HLEN.out
    by_cases hlt : i < bf.length
    · have hlt1 : i < af.length := by omega
      have hz1 : (i : Int) < (af.length : Int) := by omega
      have hz2 : (i : Int) < (bf.length : Int) := by omega
      obtain ⟨f, hf⟩ : ∃ f, af[i]? = some f := ⟨_, List.getElem?_eq_getElem hlt1⟩
      obtain ⟨g, hgf⟩ : ∃ g, bf[i]? = some g := ⟨_, List.getElem?_eq_getElem hlt⟩
      obtain ⟨b1, o1, rfl, x0, x1⟩ := K1.out i f hf
      obtain ⟨b2, o2, rfl, y0, y1⟩ := K2.out i g hgf
      have e0 := cell_later BR.out x0
      have e1 := cell_later BR.out x1
      have e2 := cell_later BR.out y0
      have e3 := cell_later BR.out y1
      have HTA : Hid (af.take (i + 1) = af.take i ++ [f] ∧ bf.take (i + 1) = bf.take i ++ [g]) := ⟨by rw [List.take_add_one, hf]; rfl, by rw [List.take_add_one, hgf]; rfl⟩
      have hne := fun W => neq_pair f g W
      have HFG := Lib.hid hf
      have HGG := Lib.hid hgf
      clear x0 x1 y0 y1 hf hgf hlt hlt1 hle
      by_cases hfg : f = g
      · have HFE := Lib.hid hfg
        have hne2 : ∀ W, (binOp .neq 58 (.agg #[.string ⟨f.1.toArray⟩, .string ⟨f.2.toArray⟩]) (.agg #[.string ⟨g.1.toArray⟩, .string ⟨g.2.toArray⟩])).run Tryz.prog W = .ok (.bool false) W := fun W => by rw [hne W, decide_eq_true HFE.out]; rfl
        clear hne hfg
        go_wp2
        go_region
        go_wp2
        go_roundg (bf.length - (i + 1))
        case measure => omega
        case rel => exact ⟨i + 1, by omega, by omega, by go_num, Below.drew BR.out, (by show _ = _; rw [HTA.out.1, HTA.out.2, HT.out, HFE.out])⟩
      · have HD : Hid (decide (af = bf) = false) := by
          show _ = _
          rw [decide_eq_false_iff_not]
          intro h
          have h1 := HFG.out
          rw [h, HGG.out] at h1
          exact hfg (Option.some.inj h1).symm
        have hne2 : ∀ W, (binOp .neq 58 (.agg #[.string ⟨f.1.toArray⟩, .string ⟨f.2.toArray⟩]) (.agg #[.string ⟨g.1.toArray⟩, .string ⟨g.2.toArray⟩])).run Tryz.prog W = .ok (.bool true) W := fun W => by rw [hne W, decide_eq_false hfg]; rfl
        clear hne hfg
        go_wp2
        go_region
        go_wp2
        go_ret
        exact ⟨by rw [HD.out]; rfl, Below.drew BR.out⟩
    · have he : i = bf.length := by omega
      have HD : Hid (decide (af = bf) = true) := by
        show _ = _
        rw [decide_eq_true_iff, take_all HLEN.out HT.out he]
      have hz1 : (af.length : Int) ≤ (i : Int) := by omega
      go_wp2
      go_ret
      exact ⟨by rw [HD.out]; rfl, BR.out⟩

theorem pairCells_one (fs : List (List UInt8 × List UInt8)) : ∀ u ∈ pairCells fs, u.oneCell' = true := by
  induction fs with
  | nil => intro u h; cases h
  | cons f fs ih =>
    intro u hu
    have hc : pairCells (f :: fs) = .string ⟨f.1.toArray⟩ :: .string ⟨f.2.toArray⟩ :: pairCells fs := rfl
    rw [hc] at hu
    rcases List.mem_cons.1 hu with rfl | hu
    · rfl
    rcases List.mem_cons.1 hu with rfl | hu
    · rfl
    · exact ih u hu
theorem pairCells_get (fs : List (List UInt8 × List UInt8)) : ∀ {j : Nat} {u : Value}, (pairCells fs)[j]? = some u → ∃ i f, fs[i]? = some f ∧ ((j = i * 2 ∧ u = .string ⟨f.1.toArray⟩) ∨ (j = i * 2 + 1 ∧ u = .string ⟨f.2.toArray⟩)) := by
  induction fs with
  | nil => intro j u h; simp [pairCells] at h
  | cons f fs ih =>
    intro j u hu
    have hc : pairCells (f :: fs) = .string ⟨f.1.toArray⟩ :: .string ⟨f.2.toArray⟩ :: pairCells fs := rfl
    rw [hc] at hu
    rcases j with _ | _ | j
    · simp at hu
      exact ⟨0, f, rfl, .inl ⟨rfl, hu.symm⟩⟩
    · simp at hu
      exact ⟨0, f, rfl, .inr ⟨rfl, hu.symm⟩⟩
    · simp at hu
      obtain ⟨i, g, h1, h2⟩ := ih hu
      refine ⟨i + 1, g, h1, ?_⟩
      rcases h2 with ⟨h2, h3⟩ | ⟨h2, h3⟩
      · exact .inl ⟨by omega, h3⟩
      · exact .inr ⟨by omega, h3⟩

set_option maxHeartbeats 4000000 in
set_option maxRecDepth 100000 in
theorem clone_empty (a : Option Addr) (c : Nat) (w : World) :
    Calls Tryz.prog 52 #[.slice a 0 c] w fun e w' => ∃ v, e = .returned v ∧ w'.ownsRow w.heap.size 58 2 v 0 [] ∧ Below w.heap.size w w' := by
  cases a with
  | none =>
    refine (Tryz.slices_Clone_nil 0 c w).mono ?_
    rintro e w' ⟨rfl, rfl⟩
    exact ⟨_, rfl, World.ownsRow_nil _ _ _ _, Below.refl _ _⟩
  | some x =>
    have he := fun W => Lib.run_eql_slice_nil (P := Tryz.prog) W 29 58 (some x) 0 c 0 0 Tryz.underlying29
    go_enter Tryz.func52, Tryz.ntmps52
    go_wp2_with fail
    go_ret
    exact ⟨_, rfl, ⟨rfl, .inr ⟨w.heap.size, 0, #[], rfl, Nat.le_refl _, heap_alloc_new _ _, Nat.le_refl _, by simp [maxLen], rfl, rfl⟩⟩, below_alloc (Below.refl _ _) (Nat.le_refl _) _⟩
set_option maxRecDepth 100000 in
theorem clone_any {w : World} {v : Value} {fs : List (List UInt8 × List UInt8)} (h : PairsAt w v fs) (hl : fs.length ≤ 4000000000000) :
    Calls Tryz.prog 52 #[v] w fun e w' => ∃ v, e = .returned v ∧ w'.ownsRow w.heap.size 58 2 v fs.length (pairCells fs) ∧ Below w.heap.size w w' := by
  obtain ⟨i0, hi, hz0, hz1, hz2⟩ := info_pair
  obtain ⟨a, c, rfl, _, _, hc⟩ := h
  cases fs with
  | nil => exact clone_empty a c w
  | cons f fs =>
    obtain ⟨b, off, rfl, _, _⟩ := hc 0 f rfl
    refine (Tryz.slices_Clone i0 _ 2 32 hi hz0 hz1 hz2 rfl (by decide) (fun w => by first | rfl | kernel_rfl) b off (f :: fs).length c (pairCells (f :: fs)) w (pairCells_len _) (by simp only [maxLen]; omega) (by omega) (fun j u hj => ?_) (pairCells_one _)).mono ?_
    · obtain ⟨i, g, h1, h2⟩ := pairCells_get _ hj
      obtain ⟨b', off', e, k0, k1⟩ := hc i g h1
      injection e with e
      injection e with e1 e2 _
      subst e1 e2
      rcases h2 with ⟨rfl, rfl⟩ | ⟨rfl, rfl⟩
      · exact k0
      · rw [← Nat.add_assoc]; exact k1
    · rintro e w' ⟨v', rfl, h1, _, h3⟩
      exact ⟨v', rfl, h1, h3⟩
end Go.Proofs.YtdilmefeofdkmaaGreatDoor

/-
  WIRE, plain: a request that is told has at most 50 fields.
-/
namespace Go.Proofs.YtdilmefeofdkmaaGreatDoor

theorem ends_flds (s : RS) : ∀ q ∈ s.ends.2, q.fields = s.fields := by
  intro q hq
  unfold RS.ends at hq
  simp only at hq
  repeat' split at hq
  all_goals first
    | (simp at hq; done)
    | (simp [RS.complete, RS.req] at hq; rw [hq])
theorem step_flds (s : RS) (b : UInt8) : ∀ q ∈ (s.step b).2, q.fields = s.fields := by
  intro q hq
  unfold RS.step at hq
  cases hm : s.mode <;> rw [hm] at hq <;> simp only at hq
  · cases hq
  · unfold RS.field at hq
    simp only at hq
    have hc : s.counts.fields = s.fields := by unfold RS.counts; split <;> rfl
    repeat' split at hq
    all_goals first
      | (cases hq; done)
      | (rw [ends_flds _ q hq]; exact hc)
  · unfold RS.bytes at hq
    simp only at hq
    split at hq
    · simp [RS.complete, RS.req] at hq; rw [hq]
    · cases hq
  · cases hq
  · cases hq
  · cases hq
  · unfold RS.last at hq
    have hf : (s.chunkLine b).1.fields = s.fields := by
      unfold RS.chunkLine
      split
      · rfl
      · split <;> rfl
    generalize s.chunkLine b = r at *
    obtain ⟨t, o⟩ := r
    cases o with
    | none => cases hq
    | some line =>
      simp only at hq
      split at hq
      · cases hq
      · simp [RS.complete, RS.req] at hq
        rw [hq]
        exact hf
theorem feed_flds : ∀ (l : List UInt8) (s : RS) (N : Nat), WF N s → ∀ q ∈ (s.feed l).2, q.fields.length ≤ 50
  | [], s, N, _, q, hq => by cases hq
  | b :: l, s, N, h, q, hq => by
    unfold RS.feed at hq
    split at hq
    · cases hq
    · rename_i hd
      simp only [List.mem_append] at hq
      rcases hq with hq | hq
      · rw [step_flds s b q hq]; exact h.flds
      · exact feed_flds l (s.step b).1 (N + 1) (step_wf h (by simpa using hd) b) q hq
end Go.Proofs.YtdilmefeofdkmaaGreatDoor

/-
  WIRE: what Ask stands on: a list of fields in a block of its own.
-/
namespace Go.Proofs.YtdilmefeofdkmaaGreatDoor
open Go.RowKit

/-- fields gathered since w0, in a block of their own -/
def FlAt (w0 wr : World) (v : Value) (fs : List (List UInt8 × List UInt8)) : Prop := wr.ownsRow w0.heap.size 58 2 v fs.length (pairCells fs) ∧ Below w0.heap.size w0 wr
theorem own0 {w : World} {base : Nat} {e : TypeId} {sz : Nat} {v : Value} {n : Nat} {xs : List Value} (h : w.ownsRow base e sz v n xs) : w.ownsRow 0 e sz v n xs := by
  refine ⟨h.1, ?_⟩
  rcases h.2 with h1 | ⟨g, cap, cur, hv, _, r⟩
  · exact .inl h1
  · exact .inr ⟨g, cap, cur, hv, Nat.zero_le _, r⟩
theorem FlAt.pairs {w0 wr : World} {v : Value} {fs : List (List UInt8 × List UInt8)} (h : FlAt w0 wr v fs) (hl : fs.length ≤ 140737488351232) : PairsAt wr v fs := pairs_own (own0 h.1) hl
theorem FlAt.form {w0 wr : World} {v : Value} {fs : List (List UInt8 × List UInt8)} (h : FlAt w0 wr v fs) : ∃ a c, v = .slice a fs.length c := rowB_form h.1
theorem rowB_later {w w' : World} {base : Nat} {e : TypeId} {sz : Nat} {v : Value} {n : Nat} {xs : List Value} (h : w.ownsRow base e sz v n xs) (hb : Below w.heap.size w w') : w'.ownsRow base e sz v n xs := by
  refine ⟨h.1, ?_⟩
  rcases h.2 with h1 | ⟨g, cap, cur, hv, hg, hh, r⟩
  · exact .inl h1
  · exact .inr ⟨g, cap, cur, hv, hg, (hb.block g (Array.getElem?_eq_some_iff.1 hh).1).trans hh, r⟩
theorem FlAt.later {w0 wr w' : World} {v : Value} {fs : List (List UInt8 × List UInt8)} (h : FlAt w0 wr v fs) (hb : Below wr.heap.size wr w') : FlAt w0 w' v fs := ⟨rowB_later h.1 hb, h.2.trans (hb.mono h.2.size)⟩
theorem FlAt.nil (w0 wr : World) (h : Below w0.heap.size w0 wr) : FlAt w0 wr (.slice none 0 0) [] := ⟨World.ownsRow_nil _ _ _ _, h⟩
/-- what an append of one field leaves -/
theorem FlAt.push {w0 wr w2 : World} {a : Option Addr} {c gn cap : Nat} {fs : List (List UInt8 × List UInt8)} {f : List UInt8 × List UInt8} {K : Nat → Prop} (h : FlAt w0 wr (.slice a fs.length c) fs)
    (hown : w2.ownsRow w0.heap.size 58 2 (.slice (some ⟨gn, 0, none⟩) (fs.length + 1) cap) (fs.length + 1) (pairCells fs ++ [.string ⟨f.1.toArray⟩, .string ⟨f.2.toArray⟩])) (hc : Chg wr w2 K) (hK : ∀ b, K b → w0.heap.size ≤ b) :
    FlAt w0 w2 (.slice (some ⟨gn, 0, none⟩) (fs.length + 1) cap) (fs ++ [f]) := by
  refine ⟨?_, h.2.trans (hc.below h.2.size hK)⟩
  rw [pairCells_snoc, List.length_append]
  exact hown

theorem fieldT_len (f : List UInt8 × List UInt8) : (fieldT f).length = f.1.length + f.2.length + 4 := by simp [fieldT]; omega
/-- a field among fields is not longer than all of them -/
theorem field_len {fs : List (List UInt8 × List UInt8)} {i : Nat} {f : List UInt8 × List UInt8} (h : fs[i]? = some f) : ((fs.take i).flatMap fieldT).length + f.1.length + f.2.length + 4 ≤ (fs.flatMap fieldT).length := by
  have htk : fs.take (i + 1) = fs.take i ++ [f] := by rw [List.take_add_one, h]; rfl
  have h2 : fs.flatMap fieldT = (fs.take (i + 1)).flatMap fieldT ++ (fs.drop (i + 1)).flatMap fieldT := by rw [← List.flatMap_append, List.take_append_drop]
  rw [h2, htk]
  simp only [List.flatMap_append, List.flatMap_cons, List.flatMap_nil, List.append_nil, List.length_append, fieldT_len]
  omega
theorem fields_len (fs : List (List UInt8 × List UInt8)) : 4 * fs.length ≤ (fs.flatMap fieldT).length := by
  induction fs with
  | nil => simp
  | cons f fs ih => simp only [List.flatMap_cons, List.length_append, List.length_cons, fieldT_len]; omega
end Go.Proofs.YtdilmefeofdkmaaGreatDoor
