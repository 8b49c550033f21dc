/-
  MetaWrites: the law (the walk is printed by wip/gen/mtwrites.py).
-/
import Derived.Test.YtajmkkjlhmeolaaGreatDoorMtApart
import Derived.Test.YtajmkkjlhmeolaaGreatDoorMtBkText
import Derived.Test.YtajmkkjlhmeolaaGreatDoorMtBackP
import Derived.Test.YtajmkkjlhmeolaaGreatDoorSm43
import Derived.Test.YtajmkkjlhmeolaaGreatDoorMfText
namespace Go.Proofs.YtajmkkjlhmeolaaGreatDoor
open Go.RowKit Go.Lib

theorem rl_one (l : List RlV) : ∀ r ∈ rlRows l, ∀ u ∈ r, u.oneCell' = true := by
  intro r hr u hu
  simp only [rlRows, List.mem_map] at hr
  obtain ⟨x, _, rfl⟩ := hr
  simp only [RlV.cells, List.mem_cons, List.not_mem_nil, or_false] at hu
  rcases hu with rfl | rfl | rfl | rfl | rfl | rfl <;> rfl
theorem int_one (l : List Int) : ∀ r ∈ intRows l, ∀ u ∈ r, u.oneCell' = true := by
  intro r hr u hu
  simp only [intRows, List.mem_map] at hr
  obtain ⟨x, _, rfl⟩ := hr
  simp only [List.mem_singleton] at hu
  subst hu
  rfl

set_option maxHeartbeats 8000000 in
set_option maxRecDepth 100000 in
theorem writes_walk (b : BkV) (sb : Value) (v : VerV) (sv : Value) (u : UpV) (pv : Value) (p : PartV) (w : World) (hG : GlobK w)
    (hb1 : IntOK b.when_) (hb2 : IntOK b.mode) (hb3 : ∀ r ∈ b.rules, RlShort r) (hb4 : Short b.name) (hb5 : Short b.owner) (hb6 : Short b.policy) (hb7 : SlAt w 6 sb (rlRows b.rules)) (hb8 : (bkL b).length ≤ 140737488351232)
    (hv1 : IntOK v.seq) (hv2 : IntOK v.size) (hv3 : IntOK v.when_) (hv4 : ∀ x ∈ v.blobs, IntOK x) (hv5 : Short v.etag) (hv6 : Short v.type) (hv7 : SlAt w 1 sv (intRows v.blobs)) (hv8 : (verL v).length ≤ 140737488351232)
    (hu1 : IntOK u.seq) (hu2 : IntOK u.when_) (hu3 : Short u.bucket) (hu4 : Short u.key) (hu5 : Short u.type) (hu6 : Short u.owner) (hu8 : (upL u).length ≤ 140737488351232) (hu9 : ∃ a n c, pv = .slice a n c)
    (hp1 : p.IntsOK) (hp2 : Short p.etag) (hp8 : (partL p).length ≤ 140737488351232)
    (hq1 : b.name.length ≤ 140737488351232) (hq2 : b.rules.length ≤ 1000000000000) (hq3 : v.blobs.length ≤ 1000000000000) (hq4 : u.bucket.length ≤ 140737488351232) :
    Calls Tryz.prog 8 #[.agg (b.cells sb), .agg (v.cells sv), .agg (u.cellsP pv), .agg p.cells] w fun e w' => e = .returned (.bool true) ∧ Below w.heap.size w w' := by
  have HG : Hid (∀ W, Below w.heap.size w W → GlobK W) := fun W hW => hG.later hW
  have HE := Lib.hid (fun W (h : GlobK W) => ex_walk W h)
  clear hG
  have hln1 : IntOK (b.rules.length : Int) := by
    obtain ⟨_, _, _, h2, _⟩ := hb7
    rw [rlRows_len] at h2
    unfold IntOK; omega
  have hln2 : IntOK (v.blobs.length : Int) := by
    obtain ⟨_, _, _, h2, _⟩ := hv7
    rw [intRows_len] at h2
    unfold IntOK; omega
  have hbs := bk_back (bkFs_short hb1 hb2 hln1 hb3 hb4 hb5 hb6)
  have hvs := ver_back (verFs_short hv1 hv2 hv3 hln2 hv4 hv5 hv6)
  have hus := up_back (upFs_short hu1 hu2 hu3 hu4 hu5 hu6)
  have hps := part_back hp1 hp2
  obtain ⟨ra, rc, rfl⟩ := rl_form hb7
  obtain ⟨pa, pn, pc, rfl⟩ := hu9
  obtain ⟨ba, bc, rfl⟩ := sl_form hv7
  obtain ⟨ob, hob⟩ : ∃ o, bkRB b = o := ⟨_, rfl⟩
  obtain ⟨tb, htb⟩ : ∃ l, (if ob then bkL b else []) = l := ⟨_, rfl⟩
  have hib : (readBkL (bkL b)).isSome = ob := by rw [hbs, hob]; cases ob <;> rfl
  obtain ⟨ov, hov⟩ : ∃ o, verRB v = o := ⟨_, rfl⟩
  obtain ⟨tv, htv⟩ : ∃ l, (if ov then verL v else []) = l := ⟨_, rfl⟩
  have hiv : (readVerL (verL v)).isSome = ov := by rw [hvs, hov]; cases ov <;> rfl
  obtain ⟨ou, hou⟩ : ∃ o, upRB u = o := ⟨_, rfl⟩
  obtain ⟨tu, htu⟩ : ∃ l, (if ou then upL u else []) = l := ⟨_, rfl⟩
  have hiu : (readUpL (upL u)).isSome = ou := by rw [hus, hou]; cases ou <;> rfl
  obtain ⟨op, hop⟩ : ∃ o, partRB p = o := ⟨_, rfl⟩
  obtain ⟨tp, htp⟩ : ∃ l, (if op then partL p else []) = l := ⟨_, rfl⟩
  have hip : (readPartL (partL p)).isSome = op := by rw [hps, hop]; cases op <;> rfl
  have D1 : Hid (∀ a c W, GlobK W → SlAt W 6 (.slice a b.rules.length c) (rlRows b.rules) → Calls Tryz.prog 38 #[.agg (b.cells (.slice a b.rules.length c))] W fun e w' => e = .returned (.tuple #[.string ⟨tb.toArray⟩, .int .i64 (if ob then 0 else 1)]) ∧ Below W.heap.size W w') := fun a c W hW hS => by
    have := bkText_any b (.slice a b.rules.length c) W hW ⟨hb1, hb2, fun r hr => ⟨(hb3 r hr).1, (hb3 r hr).2.1, (hb3 r hr).2.2.1⟩⟩ hS hb8
    unfold ToldOut at this
    rwa [hib, htb] at this
  have E1 : Hid (∀ a c W, SlAt W 6 (.slice a b.rules.length c) (rlRows b.rules) → Calls Tryz.prog 42 #[.agg (b.cells (.slice a b.rules.length c))] W fun e w' => e = .returned (.tuple #[.string ⟨tb.toArray⟩, .bool ob]) ∧ Below W.heap.size W w') := fun a c W hS => by
    have := rBkText_any b (.slice a b.rules.length c) W hq1 hS
    unfold RTextOut at this
    rwa [hob, htb] at this
  have D2 : Hid (∀ a c W, GlobK W → SlAt W 1 (.slice a v.blobs.length c) (intRows v.blobs) → Calls Tryz.prog 39 #[.agg (v.cells (.slice a v.blobs.length c))] W fun e w' => e = .returned (.tuple #[.string ⟨tv.toArray⟩, .int .i64 (if ov then 0 else 1)]) ∧ Below W.heap.size W w') := fun a c W hW hS => by
    have := verText_any v (.slice a v.blobs.length c) W hW ⟨hv1, hv2, hv3, hv4⟩ hS hv8
    unfold ToldOut at this
    rwa [hiv, htv] at this
  have E2 : Hid (∀ a c W, SlAt W 1 (.slice a v.blobs.length c) (intRows v.blobs) → Calls Tryz.prog 43 #[.agg (v.cells (.slice a v.blobs.length c))] W fun e w' => e = .returned (.tuple #[.string ⟨tv.toArray⟩, .bool ov]) ∧ Below W.heap.size W w') := fun a c W hS => by
    have := rVerText_any v (.slice a v.blobs.length c) W hS
    unfold RTextOut at this
    rwa [hov, htv] at this
  have D3 : Hid (∀ W, GlobK W → Calls Tryz.prog 40 #[.agg (u.cellsP (.slice pa pn pc))] W fun e w' => e = .returned (.tuple #[.string ⟨tu.toArray⟩, .int .i64 (if ou then 0 else 1)]) ∧ Below W.heap.size W w') := fun W hW => by
    have := upText_any u (.slice pa pn pc) W hW ⟨hu1, hu2⟩ hu8
    unfold ToldOut at this
    rwa [hiu, htu] at this
  have E3 : Hid (∀ W, Calls Tryz.prog 44 #[.agg (u.cellsP (.slice pa pn pc))] W fun e w' => e = .returned (.tuple #[.string ⟨tu.toArray⟩, .bool ou]) ∧ Below W.heap.size W w') := fun W => by
    have := rUpText_any u pa pn pc hq4 W
    unfold RTextOut at this
    rwa [hou, htu] at this
  have D4 : Hid (∀ W, GlobK W → Calls Tryz.prog 41 #[.agg (p.cells)] W fun e w' => e = .returned (.tuple #[.string ⟨tp.toArray⟩, .int .i64 (if op then 0 else 1)]) ∧ Below W.heap.size W w') := fun W hW => by
    have := partText_any p W hW.g hp1 hp8
    unfold ToldOut at this
    rwa [hip, htp] at this
  have E4 : Hid (∀ W, Calls Tryz.prog 45 #[.agg (p.cells)] W fun e w' => e = .returned (.tuple #[.string ⟨tp.toArray⟩, .bool op]) ∧ Below W.heap.size W w') := fun W => by
    have := rPartText_any p W
    unfold RTextOut at this
    rwa [hop, htp] at this
  clear hib hiv hiu hip hbs hvs hus hps hob hov hou hop htb htv htu htp hb1 hb2 hb3 hb4 hb5 hb6 hb8 hv1 hv2 hv3 hv4 hv5 hv6 hv8 hu1 hu2 hu3 hu4 hu5 hu6 hu8 hp1 hp2 hp8 hln1 hln2 hq1 hq4
  obtain ⟨eb, heb⟩ : ∃ n : Int, (if ob then 0 else 1) = n := ⟨_, rfl⟩
  obtain ⟨ev, hev⟩ : ∃ n : Int, (if ov then 0 else 1) = n := ⟨_, rfl⟩
  obtain ⟨eu, heu⟩ : ∃ n : Int, (if ou then 0 else 1) = n := ⟨_, rfl⟩
  obtain ⟨ep, hep⟩ : ∃ n : Int, (if op then 0 else 1) = n := ⟨_, rfl⟩
  have F1 : Hid (∀ o W, Calls Tryz.prog 37 #[.int .i64 (if o = true then 0 else 1), .bool o, .int .i64 1] W fun e w' => e = .returned (.bool true) ∧ Below W.heap.size W w') := fun o W => fits_same o 1 W
  have FB := Lib.hid (F1.out ob)
  have FV := Lib.hid (F1.out ov)
  have FU := Lib.hid (F1.out ou)
  have FP := Lib.hid (F1.out op)
  rw [heb] at D1 FB
  rw [hev] at D2 FV
  rw [heu] at D3 FU
  rw [hep] at D4 FP
  clear heb hev heu hep F1
  obtain ⟨i1, hi1, hy0, hy1, hy2⟩ := info_rule
  obtain ⟨i2, hi2, hz0, hz1, hz2⟩ := info_int
  obtain ⟨k1, k2, k3, k4, k5, rl⟩ := b
  obtain ⟨q1, q2, q3, q4, q5, q6, q7, bl⟩ := v
  obtain ⟨u1, u2, u3, u4, u5, u6⟩ := u
  obtain ⟨p1, p2, p3, p4, p5⟩ := p
  simp only [BkV.cells, VerV.cells, UpV.cellsP, PartV.cells] at *
  have hA : Below w.heap.size w ((((w.alloc (.cells #[.string ⟨k1.toArray⟩, .string ⟨k2.toArray⟩, .string ⟨k3.toArray⟩, .int .i64 k4, .int .i64 k5, .slice ra rl.length rc] 41)).alloc (.cells #[.int .i64 q1, .bool q2, .bool q3, .string ⟨q4.toArray⟩, .string ⟨q5.toArray⟩, .int .i64 q6, .int .i64 q7, .slice ba bl.length bc] 47)).alloc (.cells #[.int .i64 u1, .string ⟨u2.toArray⟩, .string ⟨u3.toArray⟩, .string ⟨u4.toArray⟩, .string ⟨u5.toArray⟩, .int .i64 u6, .slice pa pn pc] 52)).alloc (.cells #[.int .i64 p1, .int .i64 p2, .int .i64 p3, .string ⟨p4.toArray⟩, .int .i64 p5] 56)) := below_alloc (below_alloc (below_alloc (below_alloc (Below.refl _ _) (Nat.le_refl _) _) (Nat.le_refl _) _) (Nat.le_refl _) _) (Nat.le_refl _) _
  have B0 := Lib.hid hA
  have S1 := Lib.hid (hb7.later hA)
  have S2 := Lib.hid (hv7.later hA)
  have X1 : Hid (((((w.alloc (.cells #[.string ⟨k1.toArray⟩, .string ⟨k2.toArray⟩, .string ⟨k3.toArray⟩, .int .i64 k4, .int .i64 k5, .slice ra rl.length rc] 41)).alloc (.cells #[.int .i64 q1, .bool q2, .bool q3, .string ⟨q4.toArray⟩, .string ⟨q5.toArray⟩, .int .i64 q6, .int .i64 q7, .slice ba bl.length bc] 47)).alloc (.cells #[.int .i64 u1, .string ⟨u2.toArray⟩, .string ⟨u3.toArray⟩, .string ⟨u4.toArray⟩, .string ⟨u5.toArray⟩, .int .i64 u6, .slice pa pn pc] 52)).alloc (.cells #[.int .i64 p1, .int .i64 p2, .int .i64 p3, .string ⟨p4.toArray⟩, .int .i64 p5] 56)).heap[w.heap.size]? = some (.cells #[.string ⟨k1.toArray⟩, .string ⟨k2.toArray⟩, .string ⟨k3.toArray⟩, .int .i64 k4, .int .i64 k5, .slice ra rl.length rc] 41 (0, 0))) := by
    show _ = _
    refine (Below.heap_alloc _ _ _ (by first | (simp; done) | (simp; omega))).trans ((Below.heap_alloc _ _ _ (by first | (simp; done) | (simp; omega))).trans ((Below.heap_alloc _ _ _ (by first | (simp; done) | (simp; omega))).trans (heap_alloc_new _ _)))
  have X2 : Hid (((((w.alloc (.cells #[.string ⟨k1.toArray⟩, .string ⟨k2.toArray⟩, .string ⟨k3.toArray⟩, .int .i64 k4, .int .i64 k5, .slice ra rl.length rc] 41)).alloc (.cells #[.int .i64 q1, .bool q2, .bool q3, .string ⟨q4.toArray⟩, .string ⟨q5.toArray⟩, .int .i64 q6, .int .i64 q7, .slice ba bl.length bc] 47)).alloc (.cells #[.int .i64 u1, .string ⟨u2.toArray⟩, .string ⟨u3.toArray⟩, .string ⟨u4.toArray⟩, .string ⟨u5.toArray⟩, .int .i64 u6, .slice pa pn pc] 52)).alloc (.cells #[.int .i64 p1, .int .i64 p2, .int .i64 p3, .string ⟨p4.toArray⟩, .int .i64 p5] 56)).heap[w.heap.size + 1]? = some (.cells #[.int .i64 q1, .bool q2, .bool q3, .string ⟨q4.toArray⟩, .string ⟨q5.toArray⟩, .int .i64 q6, .int .i64 q7, .slice ba bl.length bc] 47 (0, 0))) := by
    show _ = _
    refine (Below.heap_alloc _ _ _ (by first | (simp; done) | (simp; omega))).trans ((Below.heap_alloc _ _ _ (by first | (simp; done) | (simp; omega))).trans ?_)
    have := heap_alloc_new (w.alloc (.cells #[.string ⟨k1.toArray⟩, .string ⟨k2.toArray⟩, .string ⟨k3.toArray⟩, .int .i64 k4, .int .i64 k5, .slice ra rl.length rc] 41)) (.cells #[.int .i64 q1, .bool q2, .bool q3, .string ⟨q4.toArray⟩, .string ⟨q5.toArray⟩, .int .i64 q6, .int .i64 q7, .slice ba bl.length bc] 47)
    simpa using this
  have X3 : Hid (((((w.alloc (.cells #[.string ⟨k1.toArray⟩, .string ⟨k2.toArray⟩, .string ⟨k3.toArray⟩, .int .i64 k4, .int .i64 k5, .slice ra rl.length rc] 41)).alloc (.cells #[.int .i64 q1, .bool q2, .bool q3, .string ⟨q4.toArray⟩, .string ⟨q5.toArray⟩, .int .i64 q6, .int .i64 q7, .slice ba bl.length bc] 47)).alloc (.cells #[.int .i64 u1, .string ⟨u2.toArray⟩, .string ⟨u3.toArray⟩, .string ⟨u4.toArray⟩, .string ⟨u5.toArray⟩, .int .i64 u6, .slice pa pn pc] 52)).alloc (.cells #[.int .i64 p1, .int .i64 p2, .int .i64 p3, .string ⟨p4.toArray⟩, .int .i64 p5] 56)).heap[w.heap.size + 1 + 1]? = some (.cells #[.int .i64 u1, .string ⟨u2.toArray⟩, .string ⟨u3.toArray⟩, .string ⟨u4.toArray⟩, .string ⟨u5.toArray⟩, .int .i64 u6, .slice pa pn pc] 52 (0, 0))) := by
    show _ = _
    refine (Below.heap_alloc _ _ _ (by first | (simp; done) | (simp; omega))).trans ?_
    have := heap_alloc_new ((w.alloc (.cells #[.string ⟨k1.toArray⟩, .string ⟨k2.toArray⟩, .string ⟨k3.toArray⟩, .int .i64 k4, .int .i64 k5, .slice ra rl.length rc] 41)).alloc (.cells #[.int .i64 q1, .bool q2, .bool q3, .string ⟨q4.toArray⟩, .string ⟨q5.toArray⟩, .int .i64 q6, .int .i64 q7, .slice ba bl.length bc] 47)) (.cells #[.int .i64 u1, .string ⟨u2.toArray⟩, .string ⟨u3.toArray⟩, .string ⟨u4.toArray⟩, .string ⟨u5.toArray⟩, .int .i64 u6, .slice pa pn pc] 52)
    simpa using this
  have X4 : Hid (((((w.alloc (.cells #[.string ⟨k1.toArray⟩, .string ⟨k2.toArray⟩, .string ⟨k3.toArray⟩, .int .i64 k4, .int .i64 k5, .slice ra rl.length rc] 41)).alloc (.cells #[.int .i64 q1, .bool q2, .bool q3, .string ⟨q4.toArray⟩, .string ⟨q5.toArray⟩, .int .i64 q6, .int .i64 q7, .slice ba bl.length bc] 47)).alloc (.cells #[.int .i64 u1, .string ⟨u2.toArray⟩, .string ⟨u3.toArray⟩, .string ⟨u4.toArray⟩, .string ⟨u5.toArray⟩, .int .i64 u6, .slice pa pn pc] 52)).alloc (.cells #[.int .i64 p1, .int .i64 p2, .int .i64 p3, .string ⟨p4.toArray⟩, .int .i64 p5] 56)).heap[w.heap.size + 1 + 1 + 1]? = some (.cells #[.int .i64 p1, .int .i64 p2, .int .i64 p3, .string ⟨p4.toArray⟩, .int .i64 p5] 56 (0, 0))) := by
    show _ = _
    have := heap_alloc_new (((w.alloc (.cells #[.string ⟨k1.toArray⟩, .string ⟨k2.toArray⟩, .string ⟨k3.toArray⟩, .int .i64 k4, .int .i64 k5, .slice ra rl.length rc] 41)).alloc (.cells #[.int .i64 q1, .bool q2, .bool q3, .string ⟨q4.toArray⟩, .string ⟨q5.toArray⟩, .int .i64 q6, .int .i64 q7, .slice ba bl.length bc] 47)).alloc (.cells #[.int .i64 u1, .string ⟨u2.toArray⟩, .string ⟨u3.toArray⟩, .string ⟨u4.toArray⟩, .string ⟨u5.toArray⟩, .int .i64 u6, .slice pa pn pc] 52)) (.cells #[.int .i64 p1, .int .i64 p2, .int .i64 p3, .string ⟨p4.toArray⟩, .int .i64 p5] 56)
    simpa using this
  clear hA hb7 hv7
  go_enter Tryz.func8, Tryz.ntmps8
  go_wp2_with fail
  generalize ((((w.alloc (.cells #[.string ⟨k1.toArray⟩, .string ⟨k2.toArray⟩, .string ⟨k3.toArray⟩, .int .i64 k4, .int .i64 k5, .slice ra rl.length rc] 41)).alloc (.cells #[.int .i64 q1, .bool q2, .bool q3, .string ⟨q4.toArray⟩, .string ⟨q5.toArray⟩, .int .i64 q6, .int .i64 q7, .slice ba bl.length bc] 47)).alloc (.cells #[.int .i64 u1, .string ⟨u2.toArray⟩, .string ⟨u3.toArray⟩, .string ⟨u4.toArray⟩, .string ⟨u5.toArray⟩, .int .i64 u6, .slice pa pn pc] 52)).alloc (.cells #[.int .i64 p1, .int .i64 p2, .int .i64 p3, .string ⟨p4.toArray⟩, .int .i64 p5] 56)) = wa at *
  refine Calls.mono (HE.out _ (HG.out _ B0.out)) ?_
  rintro e w0 ⟨rfl, hb⟩
  have B0 := Lib.hid (B0.out.trans (hb.mono B0.out.size))
  have S1 := Lib.hid (S1.out.later hb)
  have S2 := Lib.hid (S2.out.later hb)
  have X1 := Lib.hid ((hb.block _ (Array.getElem?_eq_some_iff.1 X1.out).1).trans X1.out)
  have X2 := Lib.hid ((hb.block _ (Array.getElem?_eq_some_iff.1 X2.out).1).trans X2.out)
  have X3 := Lib.hid ((hb.block _ (Array.getElem?_eq_some_iff.1 X3.out).1).trans X3.out)
  have X4 := Lib.hid ((hb.block _ (Array.getElem?_eq_some_iff.1 X4.out).1).trans X4.out)
  clear hb HE
  have cR : w0.cell? ⟨w.heap.size, 5, none⟩ = some (.slice ra rl.length rc) := cell_of_heap X1.out
  go_upto_region 4 with
    (refine wpList_copy (by rfl) _ _ 39 (by rfl) 104 i1 _ 6 64 Tryz.underlying39 hi1 hy0 hy1 hy2 rfl (by decide) _ (rlRows rl) (by rfl) (by rfl) S1.out (rlRows_six rl) (rl_one rl) (by rw [rlRows_len]; omega) ?_
     rintro vv w1 hs hb)
  obtain ⟨xa, xc, rfl⟩ := rl_form hs
  have B0 := Lib.hid (B0.out.trans (hb.mono B0.out.size))
  have S1 := Lib.hid (S1.out.later hb)
  have S2 := Lib.hid (S2.out.later hb)
  have X1 := Lib.hid ((hb.block _ (Array.getElem?_eq_some_iff.1 X1.out).1).trans X1.out)
  have X2 := Lib.hid ((hb.block _ (Array.getElem?_eq_some_iff.1 X2.out).1).trans X2.out)
  have X3 := Lib.hid ((hb.block _ (Array.getElem?_eq_some_iff.1 X3.out).1).trans X3.out)
  have X4 := Lib.hid ((hb.block _ (Array.getElem?_eq_some_iff.1 X4.out).1).trans X4.out)
  have S3 := Lib.hid hs
  clear cR hs hb
  have cR : w1.cell? ⟨w.heap.size + 1, 7, none⟩ = some (.slice ba bl.length bc) := cell_of_heap X2.out
  go_upto_region 6 with
    (refine wpList_copy (by rfl) _ _ 45 (by rfl) 3 i2 _ 1 8 Tryz.underlying45 hi2 hz0 hz1 hz2 rfl (by decide) _ (intRows bl) (by rfl) (by rfl) S2.out (intRows_one bl) (int_one bl) (by rw [intRows_len]; omega) ?_
     rintro vv w2 hs hb)
  obtain ⟨ya, yc, rfl⟩ := sl_form hs
  have B0 := Lib.hid (B0.out.trans (hb.mono B0.out.size))
  have S1 := Lib.hid (S1.out.later hb)
  have S2 := Lib.hid (S2.out.later hb)
  have X1 := Lib.hid ((hb.block _ (Array.getElem?_eq_some_iff.1 X1.out).1).trans X1.out)
  have X2 := Lib.hid ((hb.block _ (Array.getElem?_eq_some_iff.1 X2.out).1).trans X2.out)
  have X3 := Lib.hid ((hb.block _ (Array.getElem?_eq_some_iff.1 X3.out).1).trans X3.out)
  have X4 := Lib.hid ((hb.block _ (Array.getElem?_eq_some_iff.1 X4.out).1).trans X4.out)
  have S3 := Lib.hid (S3.out.later hb)
  have S4 := Lib.hid hs
  clear cR hs hb
  have G5 : Hid (w.heap.size + 4 ≤ w2.heap.size) := by have := (Array.getElem?_eq_some_iff.1 X4.out).1; show _ ≤ _; omega
  have hA : Below w2.heap.size w2 ((w2.alloc (.cells bkZeroC 41)).setRow w2.heap.size #[.string ⟨k1.toArray⟩, .string ⟨k2.toArray⟩, .string ⟨k3.toArray⟩, .int .i64 k4, .int .i64 k5, .slice ra rl.length rc]) := below_one_row _ _ _ _ _ (Below.alloc (Below.refl _ _) (Nat.le_refl _) _) (Nat.le_refl _)
  have P7 : Hid ((fun W : World => Below w.heap.size w W ∧ SlAt W 6 (.slice ra rl.length rc) (rlRows rl) ∧ SlAt W 1 (.slice ba bl.length bc) (intRows bl) ∧ W.heap[w.heap.size]? = some (.cells #[.string ⟨k1.toArray⟩, .string ⟨k2.toArray⟩, .string ⟨k3.toArray⟩, .int .i64 k4, .int .i64 k5, .slice ra rl.length rc] 41 (0, 0)) ∧ W.heap[w.heap.size + 1]? = some (.cells #[.int .i64 q1, .bool q2, .bool q3, .string ⟨q4.toArray⟩, .string ⟨q5.toArray⟩, .int .i64 q6, .int .i64 q7, .slice ba bl.length bc] 47 (0, 0)) ∧ W.heap[w.heap.size + 1 + 1]? = some (.cells #[.int .i64 u1, .string ⟨u2.toArray⟩, .string ⟨u3.toArray⟩, .string ⟨u4.toArray⟩, .string ⟨u5.toArray⟩, .int .i64 u6, .slice pa pn pc] 52 (0, 0)) ∧ W.heap[w.heap.size + 1 + 1 + 1]? = some (.cells #[.int .i64 p1, .int .i64 p2, .int .i64 p3, .string ⟨p4.toArray⟩, .int .i64 p5] 56 (0, 0)) ∧ SlAt W 6 (.slice xa rl.length xc) (rlRows rl) ∧ SlAt W 1 (.slice ya bl.length yc) (intRows bl) ∧ W.heap[w2.heap.size]? = some (.cells #[.string ⟨k1.toArray⟩, .string ⟨k2.toArray⟩, .string ⟨k3.toArray⟩, .int .i64 k4, .int .i64 k5, .slice ra rl.length rc] 41 (0, 0))) ((w2.alloc (.cells bkZeroC 41)).setRow w2.heap.size #[.string ⟨k1.toArray⟩, .string ⟨k2.toArray⟩, .string ⟨k3.toArray⟩, .int .i64 k4, .int .i64 k5, .slice ra rl.length rc])) := ⟨B0.out.trans (hA.mono B0.out.size), S1.out.later hA, S2.out.later hA, (hA.block _ (Array.getElem?_eq_some_iff.1 X1.out).1).trans X1.out, (hA.block _ (Array.getElem?_eq_some_iff.1 X2.out).1).trans X2.out, (hA.block _ (Array.getElem?_eq_some_iff.1 X3.out).1).trans X3.out, (hA.block _ (Array.getElem?_eq_some_iff.1 X4.out).1).trans X4.out, S3.out.later hA, S4.out.later hA, setRow_heap _ _ _ _ _ _ (heap_alloc_new _ _)⟩
  clear hA
  go_upto_region 7 with (first
    | (refine wpList_load_row (by rfl) 41 _ (by rfl) (w.heap.size) (by rfl) 41 _ (0, 0) _ (by exact X1.out) Tryz.underlying41 rfl (by kernel_rfl) ?_)
    | (refine wpList_store_rowN (by rfl) 41 _ _ (by rfl) _ #[.string ⟨k1.toArray⟩, .string ⟨k2.toArray⟩, .string ⟨k3.toArray⟩, .int .i64 k4, .int .i64 k5, .slice ra rl.length rc] (by rfl) (by rfl) 41 _ (by exact heap_alloc_new _ _) (by kernel_rfl) (by kernel_rfl) (by kernel_rfl) (fun W : World => Below w.heap.size w W ∧ SlAt W 6 (.slice ra rl.length rc) (rlRows rl) ∧ SlAt W 1 (.slice ba bl.length bc) (intRows bl) ∧ W.heap[w.heap.size]? = some (.cells #[.string ⟨k1.toArray⟩, .string ⟨k2.toArray⟩, .string ⟨k3.toArray⟩, .int .i64 k4, .int .i64 k5, .slice ra rl.length rc] 41 (0, 0)) ∧ W.heap[w.heap.size + 1]? = some (.cells #[.int .i64 q1, .bool q2, .bool q3, .string ⟨q4.toArray⟩, .string ⟨q5.toArray⟩, .int .i64 q6, .int .i64 q7, .slice ba bl.length bc] 47 (0, 0)) ∧ W.heap[w.heap.size + 1 + 1]? = some (.cells #[.int .i64 u1, .string ⟨u2.toArray⟩, .string ⟨u3.toArray⟩, .string ⟨u4.toArray⟩, .string ⟨u5.toArray⟩, .int .i64 u6, .slice pa pn pc] 52 (0, 0)) ∧ W.heap[w.heap.size + 1 + 1 + 1]? = some (.cells #[.int .i64 p1, .int .i64 p2, .int .i64 p3, .string ⟨p4.toArray⟩, .int .i64 p5] 56 (0, 0)) ∧ SlAt W 6 (.slice xa rl.length xc) (rlRows rl) ∧ SlAt W 1 (.slice ya bl.length yc) (intRows bl) ∧ W.heap[w2.heap.size]? = some (.cells #[.string ⟨k1.toArray⟩, .string ⟨k2.toArray⟩, .string ⟨k3.toArray⟩, .int .i64 k4, .int .i64 k5, .slice ra rl.length rc] 41 (0, 0))) P7.out ?_
       clear P7 B0 S1 S2 X1 X2 X3 X4 S3 S4
       generalize w2.heap.size = g5 at G5 ⊢
       rintro w5 ⟨B0, S1, S2, X1, X2, X3, X4, S3, S4, X5⟩
       have B0 := Lib.hid B0
       have S1 := Lib.hid S1
       have S2 := Lib.hid S2
       have X1 := Lib.hid X1
       have X2 := Lib.hid X2
       have X3 := Lib.hid X3
       have X4 := Lib.hid X4
       have S3 := Lib.hid S3
       have S4 := Lib.hid S4
       have X5 := Lib.hid X5))
  have hd : ∀ (o : Nat) (u : Value), (#[.string ⟨k1.toArray⟩, .string ⟨k2.toArray⟩, .string ⟨k3.toArray⟩, .int .i64 k4, .int .i64 k5, .slice ra rl.length rc])[o]? = some u → notSl u = true → (#[.string ⟨k1.toArray⟩, .string ⟨k2.toArray⟩, .string ⟨k3.toArray⟩, .int .i64 k4, .int .i64 k5, .slice xa rl.length xc])[o]? = some u := by
    intro o u ho hn
    rcases o with _ | _ | _ | _ | _ | _ | o
    all_goals first
      | exact ho
      | (exfalso; simp at ho; subst ho; simp [notSl] at hn; done)
      | (simp at ho)
  have P8 : Hid ((fun W : World => Below w.heap.size w W ∧ SlAt W 6 (.slice ra rl.length rc) (rlRows rl) ∧ SlAt W 1 (.slice ba bl.length bc) (intRows bl) ∧ W.heap[w.heap.size]? = some (.cells #[.string ⟨k1.toArray⟩, .string ⟨k2.toArray⟩, .string ⟨k3.toArray⟩, .int .i64 k4, .int .i64 k5, .slice ra rl.length rc] 41 (0, 0)) ∧ W.heap[w.heap.size + 1]? = some (.cells #[.int .i64 q1, .bool q2, .bool q3, .string ⟨q4.toArray⟩, .string ⟨q5.toArray⟩, .int .i64 q6, .int .i64 q7, .slice ba bl.length bc] 47 (0, 0)) ∧ W.heap[w.heap.size + 1 + 1]? = some (.cells #[.int .i64 u1, .string ⟨u2.toArray⟩, .string ⟨u3.toArray⟩, .string ⟨u4.toArray⟩, .string ⟨u5.toArray⟩, .int .i64 u6, .slice pa pn pc] 52 (0, 0)) ∧ W.heap[w.heap.size + 1 + 1 + 1]? = some (.cells #[.int .i64 p1, .int .i64 p2, .int .i64 p3, .string ⟨p4.toArray⟩, .int .i64 p5] 56 (0, 0)) ∧ SlAt W 6 (.slice xa rl.length xc) (rlRows rl) ∧ SlAt W 1 (.slice ya bl.length yc) (intRows bl) ∧ W.heap[g5]? = some (.cells #[.string ⟨k1.toArray⟩, .string ⟨k2.toArray⟩, .string ⟨k3.toArray⟩, .int .i64 k4, .int .i64 k5, .slice xa rl.length xc] 41 (0, 0))) (w5.setRow g5 #[.string ⟨k1.toArray⟩, .string ⟨k2.toArray⟩, .string ⟨k3.toArray⟩, .int .i64 k4, .int .i64 k5, .slice xa rl.length xc])) := ⟨below_one_row _ _ _ _ _ B0.out (by have := G5.out; omega), S1.out.gone X5.out hd (rl_notSl _), S2.out.gone X5.out hd (int_notSl _), (setRow_other _ _ _ _ (by have := G5.out; omega)).trans X1.out, (setRow_other _ _ _ _ (by have := G5.out; omega)).trans X2.out, (setRow_other _ _ _ _ (by have := G5.out; omega)).trans X3.out, (setRow_other _ _ _ _ (by have := G5.out; omega)).trans X4.out, S3.out.gone X5.out hd (rl_notSl _), S4.out.gone X5.out hd (int_notSl _), setRow_heap _ _ _ _ _ _ X5.out⟩
  clear hd
  go_upto_region 8 with
    (refine wpList_store_cellN (by rfl) 39 _ _ (by rfl) g5 5 _ (by rfl) (by rfl) (by rfl) _ 41 X5.out (by simp) (by kernel_rfl) (fun W : World => Below w.heap.size w W ∧ SlAt W 6 (.slice ra rl.length rc) (rlRows rl) ∧ SlAt W 1 (.slice ba bl.length bc) (intRows bl) ∧ W.heap[w.heap.size]? = some (.cells #[.string ⟨k1.toArray⟩, .string ⟨k2.toArray⟩, .string ⟨k3.toArray⟩, .int .i64 k4, .int .i64 k5, .slice ra rl.length rc] 41 (0, 0)) ∧ W.heap[w.heap.size + 1]? = some (.cells #[.int .i64 q1, .bool q2, .bool q3, .string ⟨q4.toArray⟩, .string ⟨q5.toArray⟩, .int .i64 q6, .int .i64 q7, .slice ba bl.length bc] 47 (0, 0)) ∧ W.heap[w.heap.size + 1 + 1]? = some (.cells #[.int .i64 u1, .string ⟨u2.toArray⟩, .string ⟨u3.toArray⟩, .string ⟨u4.toArray⟩, .string ⟨u5.toArray⟩, .int .i64 u6, .slice pa pn pc] 52 (0, 0)) ∧ W.heap[w.heap.size + 1 + 1 + 1]? = some (.cells #[.int .i64 p1, .int .i64 p2, .int .i64 p3, .string ⟨p4.toArray⟩, .int .i64 p5] 56 (0, 0)) ∧ SlAt W 6 (.slice xa rl.length xc) (rlRows rl) ∧ SlAt W 1 (.slice ya bl.length yc) (intRows bl) ∧ W.heap[g5]? = some (.cells #[.string ⟨k1.toArray⟩, .string ⟨k2.toArray⟩, .string ⟨k3.toArray⟩, .int .i64 k4, .int .i64 k5, .slice xa rl.length xc] 41 (0, 0))) P8.out ?_
     clear P8 B0 S1 S2 X1 X2 X3 X4 S3 S4 X5
     rintro v5 ⟨B0, S1, S2, X1, X2, X3, X4, S3, S4, X5⟩
     have B0 := Lib.hid B0
     have S1 := Lib.hid S1
     have S2 := Lib.hid S2
     have X1 := Lib.hid X1
     have X2 := Lib.hid X2
     have X3 := Lib.hid X3
     have X4 := Lib.hid X4
     have S3 := Lib.hid S3
     have S4 := Lib.hid S4
     have X5 := Lib.hid X5)
  have G56y : Hid (g5 < v5.heap.size) := (Array.getElem?_eq_some_iff.1 X5.out).1
  have G6 : Hid (w.heap.size + 4 ≤ v5.heap.size) := by have := (Array.getElem?_eq_some_iff.1 X4.out).1; show _ ≤ _; omega
  have hA : Below v5.heap.size v5 ((v5.alloc (.cells verZeroC 47)).setRow v5.heap.size #[.int .i64 q1, .bool q2, .bool q3, .string ⟨q4.toArray⟩, .string ⟨q5.toArray⟩, .int .i64 q6, .int .i64 q7, .slice ba bl.length bc]) := below_one_row _ _ _ _ _ (Below.alloc (Below.refl _ _) (Nat.le_refl _) _) (Nat.le_refl _)
  have P7 : Hid ((fun W : World => Below w.heap.size w W ∧ SlAt W 6 (.slice ra rl.length rc) (rlRows rl) ∧ SlAt W 1 (.slice ba bl.length bc) (intRows bl) ∧ W.heap[w.heap.size]? = some (.cells #[.string ⟨k1.toArray⟩, .string ⟨k2.toArray⟩, .string ⟨k3.toArray⟩, .int .i64 k4, .int .i64 k5, .slice ra rl.length rc] 41 (0, 0)) ∧ W.heap[w.heap.size + 1]? = some (.cells #[.int .i64 q1, .bool q2, .bool q3, .string ⟨q4.toArray⟩, .string ⟨q5.toArray⟩, .int .i64 q6, .int .i64 q7, .slice ba bl.length bc] 47 (0, 0)) ∧ W.heap[w.heap.size + 1 + 1]? = some (.cells #[.int .i64 u1, .string ⟨u2.toArray⟩, .string ⟨u3.toArray⟩, .string ⟨u4.toArray⟩, .string ⟨u5.toArray⟩, .int .i64 u6, .slice pa pn pc] 52 (0, 0)) ∧ W.heap[w.heap.size + 1 + 1 + 1]? = some (.cells #[.int .i64 p1, .int .i64 p2, .int .i64 p3, .string ⟨p4.toArray⟩, .int .i64 p5] 56 (0, 0)) ∧ SlAt W 6 (.slice xa rl.length xc) (rlRows rl) ∧ SlAt W 1 (.slice ya bl.length yc) (intRows bl) ∧ W.heap[g5]? = some (.cells #[.string ⟨k1.toArray⟩, .string ⟨k2.toArray⟩, .string ⟨k3.toArray⟩, .int .i64 k4, .int .i64 k5, .slice xa rl.length xc] 41 (0, 0)) ∧ W.heap[v5.heap.size]? = some (.cells #[.int .i64 q1, .bool q2, .bool q3, .string ⟨q4.toArray⟩, .string ⟨q5.toArray⟩, .int .i64 q6, .int .i64 q7, .slice ba bl.length bc] 47 (0, 0))) ((v5.alloc (.cells verZeroC 47)).setRow v5.heap.size #[.int .i64 q1, .bool q2, .bool q3, .string ⟨q4.toArray⟩, .string ⟨q5.toArray⟩, .int .i64 q6, .int .i64 q7, .slice ba bl.length bc])) := ⟨B0.out.trans (hA.mono B0.out.size), S1.out.later hA, S2.out.later hA, (hA.block _ (Array.getElem?_eq_some_iff.1 X1.out).1).trans X1.out, (hA.block _ (Array.getElem?_eq_some_iff.1 X2.out).1).trans X2.out, (hA.block _ (Array.getElem?_eq_some_iff.1 X3.out).1).trans X3.out, (hA.block _ (Array.getElem?_eq_some_iff.1 X4.out).1).trans X4.out, S3.out.later hA, S4.out.later hA, (hA.block _ (Array.getElem?_eq_some_iff.1 X5.out).1).trans X5.out, setRow_heap _ _ _ _ _ _ (heap_alloc_new _ _)⟩
  clear hA
  go_upto_region 9 with (first
    | (refine wpList_load_row (by rfl) 47 _ (by rfl) (w.heap.size + 1) (by rfl) 47 _ (0, 0) _ (by exact X2.out) Tryz.underlying47 rfl (by kernel_rfl) ?_)
    | (refine wpList_store_rowN (by rfl) 47 _ _ (by rfl) _ #[.int .i64 q1, .bool q2, .bool q3, .string ⟨q4.toArray⟩, .string ⟨q5.toArray⟩, .int .i64 q6, .int .i64 q7, .slice ba bl.length bc] (by rfl) (by rfl) 47 _ (by exact heap_alloc_new _ _) (by kernel_rfl) (by kernel_rfl) (by kernel_rfl) (fun W : World => Below w.heap.size w W ∧ SlAt W 6 (.slice ra rl.length rc) (rlRows rl) ∧ SlAt W 1 (.slice ba bl.length bc) (intRows bl) ∧ W.heap[w.heap.size]? = some (.cells #[.string ⟨k1.toArray⟩, .string ⟨k2.toArray⟩, .string ⟨k3.toArray⟩, .int .i64 k4, .int .i64 k5, .slice ra rl.length rc] 41 (0, 0)) ∧ W.heap[w.heap.size + 1]? = some (.cells #[.int .i64 q1, .bool q2, .bool q3, .string ⟨q4.toArray⟩, .string ⟨q5.toArray⟩, .int .i64 q6, .int .i64 q7, .slice ba bl.length bc] 47 (0, 0)) ∧ W.heap[w.heap.size + 1 + 1]? = some (.cells #[.int .i64 u1, .string ⟨u2.toArray⟩, .string ⟨u3.toArray⟩, .string ⟨u4.toArray⟩, .string ⟨u5.toArray⟩, .int .i64 u6, .slice pa pn pc] 52 (0, 0)) ∧ W.heap[w.heap.size + 1 + 1 + 1]? = some (.cells #[.int .i64 p1, .int .i64 p2, .int .i64 p3, .string ⟨p4.toArray⟩, .int .i64 p5] 56 (0, 0)) ∧ SlAt W 6 (.slice xa rl.length xc) (rlRows rl) ∧ SlAt W 1 (.slice ya bl.length yc) (intRows bl) ∧ W.heap[g5]? = some (.cells #[.string ⟨k1.toArray⟩, .string ⟨k2.toArray⟩, .string ⟨k3.toArray⟩, .int .i64 k4, .int .i64 k5, .slice xa rl.length xc] 41 (0, 0)) ∧ W.heap[v5.heap.size]? = some (.cells #[.int .i64 q1, .bool q2, .bool q3, .string ⟨q4.toArray⟩, .string ⟨q5.toArray⟩, .int .i64 q6, .int .i64 q7, .slice ba bl.length bc] 47 (0, 0))) P7.out ?_
       clear P7 B0 S1 S2 X1 X2 X3 X4 S3 S4 X5
       generalize v5.heap.size = g6 at G6 G56y ⊢
       rintro w6 ⟨B0, S1, S2, X1, X2, X3, X4, S3, S4, X5, X6⟩
       have B0 := Lib.hid B0
       have S1 := Lib.hid S1
       have S2 := Lib.hid S2
       have X1 := Lib.hid X1
       have X2 := Lib.hid X2
       have X3 := Lib.hid X3
       have X4 := Lib.hid X4
       have S3 := Lib.hid S3
       have S4 := Lib.hid S4
       have X5 := Lib.hid X5
       have X6 := Lib.hid X6))
  have G56 : Hid (g5 < g6) := by show _ < _; exact G56y.out
  have hd : ∀ (o : Nat) (u : Value), (#[.int .i64 q1, .bool q2, .bool q3, .string ⟨q4.toArray⟩, .string ⟨q5.toArray⟩, .int .i64 q6, .int .i64 q7, .slice ba bl.length bc])[o]? = some u → notSl u = true → (#[.int .i64 q1, .bool q2, .bool q3, .string ⟨q4.toArray⟩, .string ⟨q5.toArray⟩, .int .i64 q6, .int .i64 q7, .slice ya bl.length yc])[o]? = some u := by
    intro o u ho hn
    rcases o with _ | _ | _ | _ | _ | _ | _ | _ | o
    all_goals first
      | exact ho
      | (exfalso; simp at ho; subst ho; simp [notSl] at hn; done)
      | (simp at ho)
  have P8 : Hid ((fun W : World => Below w.heap.size w W ∧ SlAt W 6 (.slice ra rl.length rc) (rlRows rl) ∧ SlAt W 1 (.slice ba bl.length bc) (intRows bl) ∧ W.heap[w.heap.size]? = some (.cells #[.string ⟨k1.toArray⟩, .string ⟨k2.toArray⟩, .string ⟨k3.toArray⟩, .int .i64 k4, .int .i64 k5, .slice ra rl.length rc] 41 (0, 0)) ∧ W.heap[w.heap.size + 1]? = some (.cells #[.int .i64 q1, .bool q2, .bool q3, .string ⟨q4.toArray⟩, .string ⟨q5.toArray⟩, .int .i64 q6, .int .i64 q7, .slice ba bl.length bc] 47 (0, 0)) ∧ W.heap[w.heap.size + 1 + 1]? = some (.cells #[.int .i64 u1, .string ⟨u2.toArray⟩, .string ⟨u3.toArray⟩, .string ⟨u4.toArray⟩, .string ⟨u5.toArray⟩, .int .i64 u6, .slice pa pn pc] 52 (0, 0)) ∧ W.heap[w.heap.size + 1 + 1 + 1]? = some (.cells #[.int .i64 p1, .int .i64 p2, .int .i64 p3, .string ⟨p4.toArray⟩, .int .i64 p5] 56 (0, 0)) ∧ SlAt W 6 (.slice xa rl.length xc) (rlRows rl) ∧ SlAt W 1 (.slice ya bl.length yc) (intRows bl) ∧ W.heap[g5]? = some (.cells #[.string ⟨k1.toArray⟩, .string ⟨k2.toArray⟩, .string ⟨k3.toArray⟩, .int .i64 k4, .int .i64 k5, .slice xa rl.length xc] 41 (0, 0)) ∧ W.heap[g6]? = some (.cells #[.int .i64 q1, .bool q2, .bool q3, .string ⟨q4.toArray⟩, .string ⟨q5.toArray⟩, .int .i64 q6, .int .i64 q7, .slice ya bl.length yc] 47 (0, 0))) (w6.setRow g6 #[.int .i64 q1, .bool q2, .bool q3, .string ⟨q4.toArray⟩, .string ⟨q5.toArray⟩, .int .i64 q6, .int .i64 q7, .slice ya bl.length yc])) := ⟨below_one_row _ _ _ _ _ B0.out (by have := G6.out; omega), S1.out.gone X6.out hd (rl_notSl _), S2.out.gone X6.out hd (int_notSl _), (setRow_other _ _ _ _ (by have := G6.out; omega)).trans X1.out, (setRow_other _ _ _ _ (by have := G6.out; omega)).trans X2.out, (setRow_other _ _ _ _ (by have := G6.out; omega)).trans X3.out, (setRow_other _ _ _ _ (by have := G6.out; omega)).trans X4.out, S3.out.gone X6.out hd (rl_notSl _), S4.out.gone X6.out hd (int_notSl _), (setRow_other _ _ _ _ (by have := G6.out; have := G56.out; omega)).trans X5.out, setRow_heap _ _ _ _ _ _ X6.out⟩
  clear hd
  go_upto_region 10 with
    (refine wpList_store_cellN (by rfl) 45 _ _ (by rfl) g6 7 _ (by rfl) (by rfl) (by rfl) _ 47 X6.out (by simp) (by kernel_rfl) (fun W : World => Below w.heap.size w W ∧ SlAt W 6 (.slice ra rl.length rc) (rlRows rl) ∧ SlAt W 1 (.slice ba bl.length bc) (intRows bl) ∧ W.heap[w.heap.size]? = some (.cells #[.string ⟨k1.toArray⟩, .string ⟨k2.toArray⟩, .string ⟨k3.toArray⟩, .int .i64 k4, .int .i64 k5, .slice ra rl.length rc] 41 (0, 0)) ∧ W.heap[w.heap.size + 1]? = some (.cells #[.int .i64 q1, .bool q2, .bool q3, .string ⟨q4.toArray⟩, .string ⟨q5.toArray⟩, .int .i64 q6, .int .i64 q7, .slice ba bl.length bc] 47 (0, 0)) ∧ W.heap[w.heap.size + 1 + 1]? = some (.cells #[.int .i64 u1, .string ⟨u2.toArray⟩, .string ⟨u3.toArray⟩, .string ⟨u4.toArray⟩, .string ⟨u5.toArray⟩, .int .i64 u6, .slice pa pn pc] 52 (0, 0)) ∧ W.heap[w.heap.size + 1 + 1 + 1]? = some (.cells #[.int .i64 p1, .int .i64 p2, .int .i64 p3, .string ⟨p4.toArray⟩, .int .i64 p5] 56 (0, 0)) ∧ SlAt W 6 (.slice xa rl.length xc) (rlRows rl) ∧ SlAt W 1 (.slice ya bl.length yc) (intRows bl) ∧ W.heap[g5]? = some (.cells #[.string ⟨k1.toArray⟩, .string ⟨k2.toArray⟩, .string ⟨k3.toArray⟩, .int .i64 k4, .int .i64 k5, .slice xa rl.length xc] 41 (0, 0)) ∧ W.heap[g6]? = some (.cells #[.int .i64 q1, .bool q2, .bool q3, .string ⟨q4.toArray⟩, .string ⟨q5.toArray⟩, .int .i64 q6, .int .i64 q7, .slice ya bl.length yc] 47 (0, 0))) P8.out ?_
     clear P8 B0 S1 S2 X1 X2 X3 X4 S3 S4 X5 X6
     rintro v6 ⟨B0, S1, S2, X1, X2, X3, X4, S3, S4, X5, X6⟩
     have B0 := Lib.hid B0
     have S1 := Lib.hid S1
     have S2 := Lib.hid S2
     have X1 := Lib.hid X1
     have X2 := Lib.hid X2
     have X3 := Lib.hid X3
     have X4 := Lib.hid X4
     have S3 := Lib.hid S3
     have S4 := Lib.hid S4
     have X5 := Lib.hid X5
     have X6 := Lib.hid X6)
  go_wp2_with (refine wpList_load_row (by rfl) 41 _ (by rfl) (g5) (by rfl) 41 _ (0, 0) _ (by exact X5.out) Tryz.underlying41 rfl (by kernel_rfl) ?_)
  refine Calls.mono (D1.out _ _ _ (HG.out _ B0.out) S3.out) ?_
  rintro e z1 ⟨rfl, hb⟩
  have B0 := Lib.hid (B0.out.trans (hb.mono B0.out.size))
  have S1 := Lib.hid (S1.out.later hb)
  have S2 := Lib.hid (S2.out.later hb)
  have X1 := Lib.hid ((hb.block _ (Array.getElem?_eq_some_iff.1 X1.out).1).trans X1.out)
  have X2 := Lib.hid ((hb.block _ (Array.getElem?_eq_some_iff.1 X2.out).1).trans X2.out)
  have X3 := Lib.hid ((hb.block _ (Array.getElem?_eq_some_iff.1 X3.out).1).trans X3.out)
  have X4 := Lib.hid ((hb.block _ (Array.getElem?_eq_some_iff.1 X4.out).1).trans X4.out)
  have S3 := Lib.hid (S3.out.later hb)
  have S4 := Lib.hid (S4.out.later hb)
  have X5 := Lib.hid ((hb.block _ (Array.getElem?_eq_some_iff.1 X5.out).1).trans X5.out)
  have X6 := Lib.hid ((hb.block _ (Array.getElem?_eq_some_iff.1 X6.out).1).trans X6.out)
  clear hb D1
  go_wp2_with (refine wpList_load_row (by rfl) 41 _ (by rfl) (w.heap.size) (by rfl) 41 _ (0, 0) _ (by exact X1.out) Tryz.underlying41 rfl (by kernel_rfl) ?_)
  refine Calls.mono (E1.out _ _ _ S1.out) ?_
  rintro e z2 ⟨rfl, hb⟩
  have B0 := Lib.hid (B0.out.trans (hb.mono B0.out.size))
  have S1 := Lib.hid (S1.out.later hb)
  have S2 := Lib.hid (S2.out.later hb)
  have X1 := Lib.hid ((hb.block _ (Array.getElem?_eq_some_iff.1 X1.out).1).trans X1.out)
  have X2 := Lib.hid ((hb.block _ (Array.getElem?_eq_some_iff.1 X2.out).1).trans X2.out)
  have X3 := Lib.hid ((hb.block _ (Array.getElem?_eq_some_iff.1 X3.out).1).trans X3.out)
  have X4 := Lib.hid ((hb.block _ (Array.getElem?_eq_some_iff.1 X4.out).1).trans X4.out)
  have S3 := Lib.hid (S3.out.later hb)
  have S4 := Lib.hid (S4.out.later hb)
  have X5 := Lib.hid ((hb.block _ (Array.getElem?_eq_some_iff.1 X5.out).1).trans X5.out)
  have X6 := Lib.hid ((hb.block _ (Array.getElem?_eq_some_iff.1 X6.out).1).trans X6.out)
  clear hb E1
  go_wp2_with (refine wpList_load_row (by rfl) 47 _ (by rfl) (g6) (by rfl) 47 _ (0, 0) _ (by exact X6.out) Tryz.underlying47 rfl (by kernel_rfl) ?_)
  refine Calls.mono (D2.out _ _ _ (HG.out _ B0.out) S4.out) ?_
  rintro e z3 ⟨rfl, hb⟩
  have B0 := Lib.hid (B0.out.trans (hb.mono B0.out.size))
  have S1 := Lib.hid (S1.out.later hb)
  have S2 := Lib.hid (S2.out.later hb)
  have X1 := Lib.hid ((hb.block _ (Array.getElem?_eq_some_iff.1 X1.out).1).trans X1.out)
  have X2 := Lib.hid ((hb.block _ (Array.getElem?_eq_some_iff.1 X2.out).1).trans X2.out)
  have X3 := Lib.hid ((hb.block _ (Array.getElem?_eq_some_iff.1 X3.out).1).trans X3.out)
  have X4 := Lib.hid ((hb.block _ (Array.getElem?_eq_some_iff.1 X4.out).1).trans X4.out)
  have S3 := Lib.hid (S3.out.later hb)
  have S4 := Lib.hid (S4.out.later hb)
  have X5 := Lib.hid ((hb.block _ (Array.getElem?_eq_some_iff.1 X5.out).1).trans X5.out)
  have X6 := Lib.hid ((hb.block _ (Array.getElem?_eq_some_iff.1 X6.out).1).trans X6.out)
  clear hb D2
  go_wp2_with (refine wpList_load_row (by rfl) 47 _ (by rfl) (w.heap.size + 1) (by rfl) 47 _ (0, 0) _ (by exact X2.out) Tryz.underlying47 rfl (by kernel_rfl) ?_)
  refine Calls.mono (E2.out _ _ _ S2.out) ?_
  rintro e z4 ⟨rfl, hb⟩
  have B0 := Lib.hid (B0.out.trans (hb.mono B0.out.size))
  have S1 := Lib.hid (S1.out.later hb)
  have S2 := Lib.hid (S2.out.later hb)
  have X1 := Lib.hid ((hb.block _ (Array.getElem?_eq_some_iff.1 X1.out).1).trans X1.out)
  have X2 := Lib.hid ((hb.block _ (Array.getElem?_eq_some_iff.1 X2.out).1).trans X2.out)
  have X3 := Lib.hid ((hb.block _ (Array.getElem?_eq_some_iff.1 X3.out).1).trans X3.out)
  have X4 := Lib.hid ((hb.block _ (Array.getElem?_eq_some_iff.1 X4.out).1).trans X4.out)
  have S3 := Lib.hid (S3.out.later hb)
  have S4 := Lib.hid (S4.out.later hb)
  have X5 := Lib.hid ((hb.block _ (Array.getElem?_eq_some_iff.1 X5.out).1).trans X5.out)
  have X6 := Lib.hid ((hb.block _ (Array.getElem?_eq_some_iff.1 X6.out).1).trans X6.out)
  clear hb E2
  go_wp2_with (refine wpList_load_row (by rfl) 52 _ (by rfl) (w.heap.size + 1 + 1) (by rfl) 52 _ (0, 0) _ (by exact X3.out) Tryz.underlying52 rfl (by kernel_rfl) ?_)
  refine Calls.mono (D3.out _ (HG.out _ B0.out)) ?_
  rintro e z5 ⟨rfl, hb⟩
  have B0 := Lib.hid (B0.out.trans (hb.mono B0.out.size))
  have S1 := Lib.hid (S1.out.later hb)
  have S2 := Lib.hid (S2.out.later hb)
  have X1 := Lib.hid ((hb.block _ (Array.getElem?_eq_some_iff.1 X1.out).1).trans X1.out)
  have X2 := Lib.hid ((hb.block _ (Array.getElem?_eq_some_iff.1 X2.out).1).trans X2.out)
  have X3 := Lib.hid ((hb.block _ (Array.getElem?_eq_some_iff.1 X3.out).1).trans X3.out)
  have X4 := Lib.hid ((hb.block _ (Array.getElem?_eq_some_iff.1 X4.out).1).trans X4.out)
  have S3 := Lib.hid (S3.out.later hb)
  have S4 := Lib.hid (S4.out.later hb)
  have X5 := Lib.hid ((hb.block _ (Array.getElem?_eq_some_iff.1 X5.out).1).trans X5.out)
  have X6 := Lib.hid ((hb.block _ (Array.getElem?_eq_some_iff.1 X6.out).1).trans X6.out)
  clear hb D3
  go_wp2_with (refine wpList_load_row (by rfl) 52 _ (by rfl) (w.heap.size + 1 + 1) (by rfl) 52 _ (0, 0) _ (by exact X3.out) Tryz.underlying52 rfl (by kernel_rfl) ?_)
  refine Calls.mono (E3.out _) ?_
  rintro e z6 ⟨rfl, hb⟩
  have B0 := Lib.hid (B0.out.trans (hb.mono B0.out.size))
  have S1 := Lib.hid (S1.out.later hb)
  have S2 := Lib.hid (S2.out.later hb)
  have X1 := Lib.hid ((hb.block _ (Array.getElem?_eq_some_iff.1 X1.out).1).trans X1.out)
  have X2 := Lib.hid ((hb.block _ (Array.getElem?_eq_some_iff.1 X2.out).1).trans X2.out)
  have X3 := Lib.hid ((hb.block _ (Array.getElem?_eq_some_iff.1 X3.out).1).trans X3.out)
  have X4 := Lib.hid ((hb.block _ (Array.getElem?_eq_some_iff.1 X4.out).1).trans X4.out)
  have S3 := Lib.hid (S3.out.later hb)
  have S4 := Lib.hid (S4.out.later hb)
  have X5 := Lib.hid ((hb.block _ (Array.getElem?_eq_some_iff.1 X5.out).1).trans X5.out)
  have X6 := Lib.hid ((hb.block _ (Array.getElem?_eq_some_iff.1 X6.out).1).trans X6.out)
  clear hb E3
  go_wp2_with (refine wpList_load_row (by rfl) 56 _ (by rfl) (w.heap.size + 1 + 1 + 1) (by rfl) 56 _ (0, 0) _ (by exact X4.out) Tryz.underlying56 rfl (by kernel_rfl) ?_)
  refine Calls.mono (D4.out _ (HG.out _ B0.out)) ?_
  rintro e z7 ⟨rfl, hb⟩
  have B0 := Lib.hid (B0.out.trans (hb.mono B0.out.size))
  have S1 := Lib.hid (S1.out.later hb)
  have S2 := Lib.hid (S2.out.later hb)
  have X1 := Lib.hid ((hb.block _ (Array.getElem?_eq_some_iff.1 X1.out).1).trans X1.out)
  have X2 := Lib.hid ((hb.block _ (Array.getElem?_eq_some_iff.1 X2.out).1).trans X2.out)
  have X3 := Lib.hid ((hb.block _ (Array.getElem?_eq_some_iff.1 X3.out).1).trans X3.out)
  have X4 := Lib.hid ((hb.block _ (Array.getElem?_eq_some_iff.1 X4.out).1).trans X4.out)
  have S3 := Lib.hid (S3.out.later hb)
  have S4 := Lib.hid (S4.out.later hb)
  have X5 := Lib.hid ((hb.block _ (Array.getElem?_eq_some_iff.1 X5.out).1).trans X5.out)
  have X6 := Lib.hid ((hb.block _ (Array.getElem?_eq_some_iff.1 X6.out).1).trans X6.out)
  clear hb D4
  go_wp2_with (refine wpList_load_row (by rfl) 56 _ (by rfl) (w.heap.size + 1 + 1 + 1) (by rfl) 56 _ (0, 0) _ (by exact X4.out) Tryz.underlying56 rfl (by kernel_rfl) ?_)
  refine Calls.mono (E4.out _) ?_
  rintro e z8 ⟨rfl, hb⟩
  have B0 := Lib.hid (B0.out.trans (hb.mono B0.out.size))
  have S1 := Lib.hid (S1.out.later hb)
  have S2 := Lib.hid (S2.out.later hb)
  have X1 := Lib.hid ((hb.block _ (Array.getElem?_eq_some_iff.1 X1.out).1).trans X1.out)
  have X2 := Lib.hid ((hb.block _ (Array.getElem?_eq_some_iff.1 X2.out).1).trans X2.out)
  have X3 := Lib.hid ((hb.block _ (Array.getElem?_eq_some_iff.1 X3.out).1).trans X3.out)
  have X4 := Lib.hid ((hb.block _ (Array.getElem?_eq_some_iff.1 X4.out).1).trans X4.out)
  have S3 := Lib.hid (S3.out.later hb)
  have S4 := Lib.hid (S4.out.later hb)
  have X5 := Lib.hid ((hb.block _ (Array.getElem?_eq_some_iff.1 X5.out).1).trans X5.out)
  have X6 := Lib.hid ((hb.block _ (Array.getElem?_eq_some_iff.1 X6.out).1).trans X6.out)
  clear hb E4
  go_wp2_with (first
    | (refine wpList_load_row (by rfl) 41 _ (by rfl) (g5) (by rfl) 41 _ (0, 0) _ (by exact X5.out) Tryz.underlying41 rfl (by kernel_rfl) ?_)
    | (refine wpList_load_row (by rfl) 41 _ (by rfl) (w.heap.size) (by rfl) 41 _ (0, 0) _ (by exact X1.out) Tryz.underlying41 rfl (by kernel_rfl) ?_))
  refine Calls.mono (sameBk_any ⟨k1, k2, k3, k4, k5, rl⟩ _ _ _ S3.out S1.out) ?_
  rintro e z9 ⟨rfl, hb⟩
  have B0 := Lib.hid (B0.out.trans (hb.mono B0.out.size))
  have S1 := Lib.hid (S1.out.later hb)
  have S2 := Lib.hid (S2.out.later hb)
  have X1 := Lib.hid ((hb.block _ (Array.getElem?_eq_some_iff.1 X1.out).1).trans X1.out)
  have X2 := Lib.hid ((hb.block _ (Array.getElem?_eq_some_iff.1 X2.out).1).trans X2.out)
  have X3 := Lib.hid ((hb.block _ (Array.getElem?_eq_some_iff.1 X3.out).1).trans X3.out)
  have X4 := Lib.hid ((hb.block _ (Array.getElem?_eq_some_iff.1 X4.out).1).trans X4.out)
  have S3 := Lib.hid (S3.out.later hb)
  have S4 := Lib.hid (S4.out.later hb)
  have X5 := Lib.hid ((hb.block _ (Array.getElem?_eq_some_iff.1 X5.out).1).trans X5.out)
  have X6 := Lib.hid ((hb.block _ (Array.getElem?_eq_some_iff.1 X6.out).1).trans X6.out)
  clear hb
  go_wp2_with (first
    | (refine wpList_load_row (by rfl) 47 _ (by rfl) (g6) (by rfl) 47 _ (0, 0) _ (by exact X6.out) Tryz.underlying47 rfl (by kernel_rfl) ?_)
    | (refine wpList_load_row (by rfl) 47 _ (by rfl) (w.heap.size + 1) (by rfl) 47 _ (0, 0) _ (by exact X2.out) Tryz.underlying47 rfl (by kernel_rfl) ?_))
  refine Calls.mono (sameVer_any ⟨q1, q2, q3, q4, q5, q6, q7, bl⟩ _ _ _ S4.out S2.out) ?_
  rintro e za ⟨rfl, hb⟩
  have B0 := Lib.hid (B0.out.trans (hb.mono B0.out.size))
  have S1 := Lib.hid (S1.out.later hb)
  have S2 := Lib.hid (S2.out.later hb)
  have X1 := Lib.hid ((hb.block _ (Array.getElem?_eq_some_iff.1 X1.out).1).trans X1.out)
  have X2 := Lib.hid ((hb.block _ (Array.getElem?_eq_some_iff.1 X2.out).1).trans X2.out)
  have X3 := Lib.hid ((hb.block _ (Array.getElem?_eq_some_iff.1 X3.out).1).trans X3.out)
  have X4 := Lib.hid ((hb.block _ (Array.getElem?_eq_some_iff.1 X4.out).1).trans X4.out)
  have S3 := Lib.hid (S3.out.later hb)
  have S4 := Lib.hid (S4.out.later hb)
  have X5 := Lib.hid ((hb.block _ (Array.getElem?_eq_some_iff.1 X5.out).1).trans X5.out)
  have X6 := Lib.hid ((hb.block _ (Array.getElem?_eq_some_iff.1 X6.out).1).trans X6.out)
  clear hb
  go_wp2_with fail
  refine Calls.mono (FB.out _) ?_
  rintro e zb ⟨rfl, hb⟩
  have B0 := Lib.hid (B0.out.trans (hb.mono B0.out.size))
  clear hb
  go_wp2_with fail
  refine Calls.mono (FV.out _) ?_
  rintro e zc ⟨rfl, hb⟩
  have B0 := Lib.hid (B0.out.trans (hb.mono B0.out.size))
  clear hb
  go_wp2_with fail
  refine Calls.mono (FU.out _) ?_
  rintro e zd ⟨rfl, hb⟩
  have B0 := Lib.hid (B0.out.trans (hb.mono B0.out.size))
  clear hb
  go_wp2_with fail
  refine Calls.mono (FP.out _) ?_
  rintro e ze ⟨rfl, hb⟩
  have B0 := Lib.hid (B0.out.trans (hb.mono B0.out.size))
  clear hb
  go_wp2
  go_ret
  exact ⟨rfl, B0.out⟩

end Go.Proofs.YtajmkkjlhmeolaaGreatDoor
