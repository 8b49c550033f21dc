/-
  MetaBack: the law (the walk is printed by wip/gen/mtback.py).
-/
import Derived.Test.YtajmkkjlhmeolaaGreatDoorMtApart
import Derived.Test.YtajmkkjlhmeolaaGreatDoorMtBkText
import Derived.Test.YtajmkkjlhmeolaaGreatDoorMtBackP
import Derived.Test.YtajmkkjlhmeolaaGreatDoorSm43
namespace Go.Proofs.YtajmkkjlhmeolaaGreatDoor
open Go.RowKit Go.Lib

theorem nil_b : readBkL [] = none := rfl
theorem nil_u : readUpL [] = none := rfl
theorem nil_p : readPartL [] = none := rfl
theorem nil_v : readVerL [] = none := by
  unfold readVerL
  rw [if_neg]
  decide
theorem told_of {o : Bool} {L : List UInt8} : ∃ (sb : List UInt8) (eb : Int), sb = (if o then L else []) ∧ eb = (if o then 0 else 1) := ⟨_, _, rfl, rfl⟩

set_option maxHeartbeats 8000000 in
set_option maxRecDepth 100000 in
theorem back_walk (b : BkV) (sb : Value) (v : VerV) (sv : Value) (u : UpV) (pv : Value) (p : PartV) (w : World) (hG : GlobK w)
    (hb1 : IntOK b.when_) (hb2 : IntOK b.mode) (hb3 : ∀ r ∈ b.rules, RlShort r) (hb4 : Short b.name) (hb5 : Short b.owner) (hb6 : Short b.policy) (hb7 : SlAt w 6 sb (rlRows b.rules)) (hb8 : (bkL b).length ≤ 140737488351232)
    (hv1 : IntOK v.seq) (hv2 : IntOK v.size) (hv3 : IntOK v.when_) (hv4 : ∀ x ∈ v.blobs, IntOK x) (hv5 : Short v.etag) (hv6 : Short v.type) (hv7 : SlAt w 1 sv (intRows v.blobs)) (hv8 : (verL v).length ≤ 140737488351232)
    (hu1 : IntOK u.seq) (hu2 : IntOK u.when_) (hu3 : Short u.bucket) (hu4 : Short u.key) (hu5 : Short u.type) (hu6 : Short u.owner) (hu8 : (upL u).length ≤ 140737488351232) (hu9 : ∃ a n c, pv = .slice a n c)
    (hp1 : p.IntsOK) (hp2 : Short p.etag) (hp8 : (partL p).length ≤ 140737488351232) :
    Calls Tryz.prog 7 #[.agg (b.cells sb), .agg (v.cells sv), .agg (u.cellsP pv), .agg p.cells] w fun e w' => e = .returned (.bool true) ∧ Below w.heap.size w w' := by
  have HG : Hid (∀ W, Below w.heap.size w W → GlobK W) := fun W hW => hG.later hW
  have HE := Lib.hid (fun W (h : GlobK W) => ex_walk W h)
  clear hG
  have hln1 : IntOK (b.rules.length : Int) := by
    obtain ⟨_, _, _, h2, _⟩ := hb7
    rw [rlRows_len] at h2
    unfold IntOK; omega
  have hln2 : IntOK (v.blobs.length : Int) := by
    obtain ⟨_, _, _, h2, _⟩ := hv7
    rw [intRows_len] at h2
    unfold IntOK; omega
  have hbs := bk_back (bkFs_short hb1 hb2 hln1 hb3 hb4 hb5 hb6)
  have hvs := ver_back (verFs_short hv1 hv2 hv3 hln2 hv4 hv5 hv6)
  have hus := up_back (upFs_short hu1 hu2 hu3 hu4 hu5 hu6)
  have hps := part_back hp1 hp2
  obtain ⟨ra, rc, rfl⟩ := rl_form hb7
  obtain ⟨pa, pn, pc, rfl⟩ := hu9
  obtain ⟨ba, bc, rfl⟩ := sl_form hv7
  obtain ⟨ob, hob⟩ : ∃ o, bkRB b = o := ⟨_, rfl⟩
  obtain ⟨tb, htb⟩ : ∃ l, (if ob then bkL b else []) = l := ⟨_, rfl⟩
  obtain ⟨eb, heb⟩ : ∃ n : Int, (if ob then 0 else 1) = n := ⟨_, rfl⟩
  have hib : (readBkL (bkL b)).isSome = ob := by rw [hbs, hob]; cases ob <;> rfl
  have hlb : tb.length ≤ 8000 := by
    rw [← htb]
    cases ob with
    | true => exact bk_short ((bkRB_iff b).1 hob)
    | false => simp
  have hrb : readBkL tb = if ob then some b else none := by
    rw [← htb]
    cases ob with
    | true => rw [if_pos rfl, hbs, hob]
    | false => rw [if_neg (by decide), if_neg (by decide)]; exact nil_b
  obtain ⟨ov, hov⟩ : ∃ o, verRB v = o := ⟨_, rfl⟩
  obtain ⟨tv, htv⟩ : ∃ l, (if ov then verL v else []) = l := ⟨_, rfl⟩
  obtain ⟨ev, hev⟩ : ∃ n : Int, (if ov then 0 else 1) = n := ⟨_, rfl⟩
  have hiv : (readVerL (verL v)).isSome = ov := by rw [hvs, hov]; cases ov <;> rfl
  have hlv : tv.length ≤ 8000 := by
    rw [← htv]
    cases ov with
    | true => exact ver_short ((verRB_iff v).1 hov)
    | false => simp
  have hrv : readVerL tv = if ov then some v else none := by
    rw [← htv]
    cases ov with
    | true => rw [if_pos rfl, hvs, hov]
    | false => rw [if_neg (by decide), if_neg (by decide)]; exact nil_v
  obtain ⟨ou, hou⟩ : ∃ o, upRB u = o := ⟨_, rfl⟩
  obtain ⟨tu, htu⟩ : ∃ l, (if ou then upL u else []) = l := ⟨_, rfl⟩
  obtain ⟨eu, heu⟩ : ∃ n : Int, (if ou then 0 else 1) = n := ⟨_, rfl⟩
  have hiu : (readUpL (upL u)).isSome = ou := by rw [hus, hou]; cases ou <;> rfl
  have hlu : tu.length ≤ 8000 := by
    rw [← htu]
    cases ou with
    | true => exact up_short ((upRB_iff u).1 hou)
    | false => simp
  have hru : readUpL tu = if ou then some u else none := by
    rw [← htu]
    cases ou with
    | true => rw [if_pos rfl, hus, hou]
    | false => rw [if_neg (by decide), if_neg (by decide)]; exact nil_u
  obtain ⟨op, hop⟩ : ∃ o, partRB p = o := ⟨_, rfl⟩
  obtain ⟨tp, htp⟩ : ∃ l, (if op then partL p else []) = l := ⟨_, rfl⟩
  obtain ⟨ep, hep⟩ : ∃ n : Int, (if op then 0 else 1) = n := ⟨_, rfl⟩
  have hip : (readPartL (partL p)).isSome = op := by rw [hps, hop]; cases op <;> rfl
  have hlp : tp.length ≤ 8000 := by
    rw [← htp]
    cases op with
    | true => exact part_short ((partRB_iff p).1 hop)
    | false => simp
  have hrp : readPartL tp = if op then some p else none := by
    rw [← htp]
    cases op with
    | true => rw [if_pos rfl, hps, hop]
    | false => rw [if_neg (by decide), if_neg (by decide)]; exact nil_p
  -- what the calls leave
  have D1 : Hid (∀ W, GlobK W → SlAt W 6 (.slice ra b.rules.length rc) (rlRows b.rules) → Calls Tryz.prog 38 #[.agg (b.cells (.slice ra b.rules.length rc))] W fun e w' => e = .returned (.tuple #[.string ⟨tb.toArray⟩, .int .i64 eb]) ∧ Below W.heap.size W w') := fun W hW hS => by
    have := bkText_any b (.slice ra b.rules.length rc) W hW ⟨hb1, hb2, fun r hr => ⟨(hb3 r hr).1, (hb3 r hr).2.1, (hb3 r hr).2.2.1⟩⟩ hS hb8
    unfold ToldOut at this
    rwa [hib, htb, heb] at this
  have D2 : Hid (∀ W, GlobK W → SlAt W 1 (.slice ba v.blobs.length bc) (intRows v.blobs) → Calls Tryz.prog 39 #[.agg (v.cells (.slice ba v.blobs.length bc))] W fun e w' => e = .returned (.tuple #[.string ⟨tv.toArray⟩, .int .i64 ev]) ∧ Below W.heap.size W w') := fun W hW hS => by
    have := verText_any v (.slice ba v.blobs.length bc) W hW ⟨hv1, hv2, hv3, hv4⟩ hS hv8
    unfold ToldOut at this
    rwa [hiv, htv, hev] at this
  have D3 : Hid (∀ W, GlobK W → Calls Tryz.prog 40 #[.agg (u.cellsP (.slice pa pn pc))] W fun e w' => e = .returned (.tuple #[.string ⟨tu.toArray⟩, .int .i64 eu]) ∧ Below W.heap.size W w') := fun W hW => by
    have := upText_any u (.slice pa pn pc) W hW ⟨hu1, hu2⟩ hu8
    unfold ToldOut at this
    rwa [hiu, htu, heu] at this
  have D4 : Hid (∀ W, GlobK W → Calls Tryz.prog 41 #[.agg p.cells] W fun e w' => e = .returned (.tuple #[.string ⟨tp.toArray⟩, .int .i64 ep]) ∧ Below W.heap.size W w') := fun W hW => by
    have := partText_any p W hW.g hp1 hp8
    unfold ToldOut at this
    rwa [hip, htp, hep] at this
  have C1 : Hid (∀ W, GlobK W → Calls Tryz.prog 26 #[.string ⟨tb.toArray⟩] W fun e w' => ∃ xa xc, e = .returned (.tuple #[.agg (BkV.cells (if ob then b else bkZ) (.slice xa (if ob then b else bkZ).rules.length xc)), .int .i64 (if ob then 0 else 59)]) ∧ SlAt w' 6 (.slice xa (if ob then b else bkZ).rules.length xc) (rlRows (if ob then b else bkZ).rules) ∧ Below W.heap.size W w') := fun W hW => by
    refine (readBk_any tb W hW (by omega)).mono ?_
    rintro e w' ⟨v, he, h1, h2⟩
    have hg : (readBkL tb).getD bkZ = if ob then b else bkZ := by rw [hrb]; cases ob <;> rfl
    have hs : (readBkL tb).isSome = ob := by rw [hrb]; cases ob <;> rfl
    rw [hg] at he h1
    rw [hs] at he
    obtain ⟨a, c, rfl⟩ := rl_form h1
    exact ⟨a, c, he, h1, h2⟩
  have C2 : Hid (∀ W, GlobK W → Calls Tryz.prog 27 #[.string ⟨tv.toArray⟩] W fun e w' => ∃ ya yc, e = .returned (.tuple #[.agg (VerV.cells (if ov then v else verZ) (.slice ya (if ov then v else verZ).blobs.length yc)), .int .i64 (if ov then 0 else 59)]) ∧ SlAt w' 1 (.slice ya (if ov then v else verZ).blobs.length yc) (intRows (if ov then v else verZ).blobs) ∧ Below W.heap.size W w') := fun W hW => by
    refine (readVer_any tv W hW (by omega)).mono ?_
    rintro e w' ⟨v', he, h1, h2⟩
    have hg : (readVerL tv).getD verZ = if ov then v else verZ := by rw [hrv]; cases ov <;> rfl
    have hs : (readVerL tv).isSome = ov := by rw [hrv]; cases ov <;> rfl
    rw [hg] at he h1
    rw [hs] at he
    obtain ⟨a, c, rfl⟩ := sl_form h1
    exact ⟨a, c, he, h1, h2⟩
  have C3 : Hid (∀ W, GlobK W → Calls Tryz.prog 28 #[.string ⟨tu.toArray⟩] W fun e w' => e = .returned (.tuple #[.agg (UpV.cells (if ou then u else ⟨0, [], [], [], [], 0⟩)), .int .i64 (if ou then 0 else 59)]) ∧ Below W.heap.size W w') := fun W hW => by
    have := readUp_any tu W hW (by omega)
    rw [hru] at this
    cases ou
    · exact this
    · exact this
  have C4 : Hid (∀ W, GlobK W → Calls Tryz.prog 29 #[.string ⟨tp.toArray⟩] W fun e w' => e = .returned (.tuple #[.agg (PartV.cells (if op then p else ⟨0, 0, 0, [], 0⟩)), .int .i64 (if op then 0 else 59)]) ∧ Below W.heap.size W w') := fun W hW => by
    have := readPart_any tp W hW.g (by omega)
    rw [hrp] at this
    cases op
    · exact this
    · exact this
  clear hib hiv hiu hip hrb hrv hru hrp hbs hvs hus hps hob hov hou hop htb htv htu htp hb1 hb2 hb3 hb4 hb5 hb6 hb8 hv1 hv2 hv3 hv4 hv5 hv6 hv8 hu1 hu2 hu3 hu4 hu5 hu6 hu8 hp1 hp2 hp8 hln1 hln2
  obtain ⟨fb, hfb⟩ : ∃ n : Int, (if ob then 0 else 59) = n := ⟨_, rfl⟩
  obtain ⟨fv, hfv⟩ : ∃ n : Int, (if ov then 0 else 59) = n := ⟨_, rfl⟩
  obtain ⟨fu, hfu⟩ : ∃ n : Int, (if ou then 0 else 59) = n := ⟨_, rfl⟩
  obtain ⟨fp, hfp⟩ : ∃ n : Int, (if op then 0 else 59) = n := ⟨_, rfl⟩
  rw [hfb] at C1
  rw [hfv] at C2
  rw [hfu] at C3
  rw [hfp] at C4
  obtain ⟨rb, hrb⟩ : ∃ r : BkV, (if ob then b else bkZ) = r := ⟨_, rfl⟩
  obtain ⟨rv, hrv⟩ : ∃ r : VerV, (if ov then v else verZ) = r := ⟨_, rfl⟩
  obtain ⟨ru, hru⟩ : ∃ r : UpV, (if ou then u else ⟨0, [], [], [], [], 0⟩) = r := ⟨_, rfl⟩
  obtain ⟨rp, hrp⟩ : ∃ r : PartV, (if op then p else ⟨0, 0, 0, [], 0⟩) = r := ⟨_, rfl⟩
  rw [hrb] at C1
  rw [hrv] at C2
  rw [hru] at C3
  rw [hrp] at C4
  -- either it was refused, or it is the same
  have EB : Hid (eb = 1 ∨ (eb = 0 ∧ fb = 0 ∧ rb = b)) := by show _ ∨ _; rw [← heb, ← hfb, ← hrb]; cases ob <;> simp
  have EV : Hid (ev = 1 ∨ (ev = 0 ∧ fv = 0 ∧ rv = v)) := by show _ ∨ _; rw [← hev, ← hfv, ← hrv]; cases ov <;> simp
  have EU : Hid (eu = 1 ∨ (eu = 0 ∧ fu = 0 ∧ ru = u)) := by show _ ∨ _; rw [← heu, ← hfu, ← hru]; cases ou <;> simp
  have EP : Hid (ep = 1 ∨ (ep = 0 ∧ fp = 0 ∧ rp = p)) := by show _ ∨ _; rw [← hep, ← hfp, ← hrp]; cases op <;> simp
  clear heb hev heu hep hfb hfv hfu hfp hrb hrv hru hrp
  have LB : Hid ((tb.length : Int) ≤ 8000) := by show _ ≤ _; omega
  have LV : Hid ((tv.length : Int) ≤ 8000) := by show _ ≤ _; omega
  have LU : Hid ((tu.length : Int) ≤ 8000) := by show _ ≤ _; omega
  have LP : Hid ((tp.length : Int) ≤ 8000) := by show _ ≤ _; omega
  clear hlb hlv hlu hlp ob ov ou op
  obtain ⟨k1, k2, k3, k4, k5, rl⟩ := b
  obtain ⟨q1, q2, q3, q4, q5, q6, q7, bl⟩ := v
  obtain ⟨u1, u2, u3, u4, u5, u6⟩ := u
  obtain ⟨p1, p2, p3, p4, p5⟩ := p
  obtain ⟨x1, x2, x3, x4, x5, xl⟩ := rb
  obtain ⟨y1, y2, y3, y4, y5, y6, y7, yl⟩ := rv
  obtain ⟨z1, z2, z3, z4, z5, z6⟩ := ru
  obtain ⟨s1, s2, s3, s4, s5⟩ := rp
  simp only [BkV.cells, VerV.cells, UpV.cells, UpV.cellsP, PartV.cells] at *
  have hA : Below w.heap.size w ((((w.alloc (.cells #[.string ⟨k1.toArray⟩, .string ⟨k2.toArray⟩, .string ⟨k3.toArray⟩, .int .i64 k4, .int .i64 k5, .slice ra rl.length rc] 41)).alloc (.cells #[.int .i64 q1, .bool q2, .bool q3, .string ⟨q4.toArray⟩, .string ⟨q5.toArray⟩, .int .i64 q6, .int .i64 q7, .slice ba bl.length bc] 47)).alloc (.cells #[.int .i64 u1, .string ⟨u2.toArray⟩, .string ⟨u3.toArray⟩, .string ⟨u4.toArray⟩, .string ⟨u5.toArray⟩, .int .i64 u6, .slice pa pn pc] 52)).alloc (.cells #[.int .i64 p1, .int .i64 p2, .int .i64 p3, .string ⟨p4.toArray⟩, .int .i64 p5] 56)) := below_alloc (below_alloc (below_alloc (below_alloc (Below.refl _ _) (Nat.le_refl _) _) (Nat.le_refl _) _) (Nat.le_refl _) _) (Nat.le_refl _) _
  have B0 := Lib.hid hA
  have S1 := Lib.hid (hb7.later hA)
  have S2 := Lib.hid (hv7.later hA)
  have X1 : Hid (((((w.alloc (.cells #[.string ⟨k1.toArray⟩, .string ⟨k2.toArray⟩, .string ⟨k3.toArray⟩, .int .i64 k4, .int .i64 k5, .slice ra rl.length rc] 41)).alloc (.cells #[.int .i64 q1, .bool q2, .bool q3, .string ⟨q4.toArray⟩, .string ⟨q5.toArray⟩, .int .i64 q6, .int .i64 q7, .slice ba bl.length bc] 47)).alloc (.cells #[.int .i64 u1, .string ⟨u2.toArray⟩, .string ⟨u3.toArray⟩, .string ⟨u4.toArray⟩, .string ⟨u5.toArray⟩, .int .i64 u6, .slice pa pn pc] 52)).alloc (.cells #[.int .i64 p1, .int .i64 p2, .int .i64 p3, .string ⟨p4.toArray⟩, .int .i64 p5] 56)).heap[w.heap.size]? = some (.cells #[.string ⟨k1.toArray⟩, .string ⟨k2.toArray⟩, .string ⟨k3.toArray⟩, .int .i64 k4, .int .i64 k5, .slice ra rl.length rc] 41 (0, 0))) := by
    show _ = _
    refine (Below.heap_alloc _ _ _ (by first | (simp; done) | (simp; omega))).trans ((Below.heap_alloc _ _ _ (by first | (simp; done) | (simp; omega))).trans ((Below.heap_alloc _ _ _ (by first | (simp; done) | (simp; omega))).trans (heap_alloc_new _ _)))
  have X2 : Hid (((((w.alloc (.cells #[.string ⟨k1.toArray⟩, .string ⟨k2.toArray⟩, .string ⟨k3.toArray⟩, .int .i64 k4, .int .i64 k5, .slice ra rl.length rc] 41)).alloc (.cells #[.int .i64 q1, .bool q2, .bool q3, .string ⟨q4.toArray⟩, .string ⟨q5.toArray⟩, .int .i64 q6, .int .i64 q7, .slice ba bl.length bc] 47)).alloc (.cells #[.int .i64 u1, .string ⟨u2.toArray⟩, .string ⟨u3.toArray⟩, .string ⟨u4.toArray⟩, .string ⟨u5.toArray⟩, .int .i64 u6, .slice pa pn pc] 52)).alloc (.cells #[.int .i64 p1, .int .i64 p2, .int .i64 p3, .string ⟨p4.toArray⟩, .int .i64 p5] 56)).heap[w.heap.size + 1]? = some (.cells #[.int .i64 q1, .bool q2, .bool q3, .string ⟨q4.toArray⟩, .string ⟨q5.toArray⟩, .int .i64 q6, .int .i64 q7, .slice ba bl.length bc] 47 (0, 0))) := by
    show _ = _
    refine (Below.heap_alloc _ _ _ (by first | (simp; done) | (simp; omega))).trans ((Below.heap_alloc _ _ _ (by first | (simp; done) | (simp; omega))).trans ?_)
    have := heap_alloc_new (w.alloc (.cells #[.string ⟨k1.toArray⟩, .string ⟨k2.toArray⟩, .string ⟨k3.toArray⟩, .int .i64 k4, .int .i64 k5, .slice ra rl.length rc] 41)) (.cells #[.int .i64 q1, .bool q2, .bool q3, .string ⟨q4.toArray⟩, .string ⟨q5.toArray⟩, .int .i64 q6, .int .i64 q7, .slice ba bl.length bc] 47)
    simpa using this
  have X3 : Hid (((((w.alloc (.cells #[.string ⟨k1.toArray⟩, .string ⟨k2.toArray⟩, .string ⟨k3.toArray⟩, .int .i64 k4, .int .i64 k5, .slice ra rl.length rc] 41)).alloc (.cells #[.int .i64 q1, .bool q2, .bool q3, .string ⟨q4.toArray⟩, .string ⟨q5.toArray⟩, .int .i64 q6, .int .i64 q7, .slice ba bl.length bc] 47)).alloc (.cells #[.int .i64 u1, .string ⟨u2.toArray⟩, .string ⟨u3.toArray⟩, .string ⟨u4.toArray⟩, .string ⟨u5.toArray⟩, .int .i64 u6, .slice pa pn pc] 52)).alloc (.cells #[.int .i64 p1, .int .i64 p2, .int .i64 p3, .string ⟨p4.toArray⟩, .int .i64 p5] 56)).heap[w.heap.size + 1 + 1]? = some (.cells #[.int .i64 u1, .string ⟨u2.toArray⟩, .string ⟨u3.toArray⟩, .string ⟨u4.toArray⟩, .string ⟨u5.toArray⟩, .int .i64 u6, .slice pa pn pc] 52 (0, 0))) := by
    show _ = _
    refine (Below.heap_alloc _ _ _ (by first | (simp; done) | (simp; omega))).trans ?_
    have := heap_alloc_new ((w.alloc (.cells #[.string ⟨k1.toArray⟩, .string ⟨k2.toArray⟩, .string ⟨k3.toArray⟩, .int .i64 k4, .int .i64 k5, .slice ra rl.length rc] 41)).alloc (.cells #[.int .i64 q1, .bool q2, .bool q3, .string ⟨q4.toArray⟩, .string ⟨q5.toArray⟩, .int .i64 q6, .int .i64 q7, .slice ba bl.length bc] 47)) (.cells #[.int .i64 u1, .string ⟨u2.toArray⟩, .string ⟨u3.toArray⟩, .string ⟨u4.toArray⟩, .string ⟨u5.toArray⟩, .int .i64 u6, .slice pa pn pc] 52)
    simpa using this
  have X4 : Hid (((((w.alloc (.cells #[.string ⟨k1.toArray⟩, .string ⟨k2.toArray⟩, .string ⟨k3.toArray⟩, .int .i64 k4, .int .i64 k5, .slice ra rl.length rc] 41)).alloc (.cells #[.int .i64 q1, .bool q2, .bool q3, .string ⟨q4.toArray⟩, .string ⟨q5.toArray⟩, .int .i64 q6, .int .i64 q7, .slice ba bl.length bc] 47)).alloc (.cells #[.int .i64 u1, .string ⟨u2.toArray⟩, .string ⟨u3.toArray⟩, .string ⟨u4.toArray⟩, .string ⟨u5.toArray⟩, .int .i64 u6, .slice pa pn pc] 52)).alloc (.cells #[.int .i64 p1, .int .i64 p2, .int .i64 p3, .string ⟨p4.toArray⟩, .int .i64 p5] 56)).heap[w.heap.size + 1 + 1 + 1]? = some (.cells #[.int .i64 p1, .int .i64 p2, .int .i64 p3, .string ⟨p4.toArray⟩, .int .i64 p5] 56 (0, 0))) := by
    show _ = _
    have := heap_alloc_new (((w.alloc (.cells #[.string ⟨k1.toArray⟩, .string ⟨k2.toArray⟩, .string ⟨k3.toArray⟩, .int .i64 k4, .int .i64 k5, .slice ra rl.length rc] 41)).alloc (.cells #[.int .i64 q1, .bool q2, .bool q3, .string ⟨q4.toArray⟩, .string ⟨q5.toArray⟩, .int .i64 q6, .int .i64 q7, .slice ba bl.length bc] 47)).alloc (.cells #[.int .i64 u1, .string ⟨u2.toArray⟩, .string ⟨u3.toArray⟩, .string ⟨u4.toArray⟩, .string ⟨u5.toArray⟩, .int .i64 u6, .slice pa pn pc] 52)) (.cells #[.int .i64 p1, .int .i64 p2, .int .i64 p3, .string ⟨p4.toArray⟩, .int .i64 p5] 56)
    simpa using this
  clear hA hb7 hv7
  go_enter Tryz.func7, Tryz.ntmps7
  go_wp2_with fail
  generalize ((((w.alloc (.cells #[.string ⟨k1.toArray⟩, .string ⟨k2.toArray⟩, .string ⟨k3.toArray⟩, .int .i64 k4, .int .i64 k5, .slice ra rl.length rc] 41)).alloc (.cells #[.int .i64 q1, .bool q2, .bool q3, .string ⟨q4.toArray⟩, .string ⟨q5.toArray⟩, .int .i64 q6, .int .i64 q7, .slice ba bl.length bc] 47)).alloc (.cells #[.int .i64 u1, .string ⟨u2.toArray⟩, .string ⟨u3.toArray⟩, .string ⟨u4.toArray⟩, .string ⟨u5.toArray⟩, .int .i64 u6, .slice pa pn pc] 52)).alloc (.cells #[.int .i64 p1, .int .i64 p2, .int .i64 p3, .string ⟨p4.toArray⟩, .int .i64 p5] 56)) = wa at *
  refine Calls.mono (HE.out _ (HG.out _ B0.out)) ?_
  rintro e w0 ⟨rfl, hb⟩
  have B0 := Lib.hid (B0.out.trans (hb.mono B0.out.size))
  have S1 := Lib.hid (S1.out.later hb)
  have S2 := Lib.hid (S2.out.later hb)
  have X1 := Lib.hid ((hb.block _ (Array.getElem?_eq_some_iff.1 X1.out).1).trans X1.out)
  have X2 := Lib.hid ((hb.block _ (Array.getElem?_eq_some_iff.1 X2.out).1).trans X2.out)
  have X3 := Lib.hid ((hb.block _ (Array.getElem?_eq_some_iff.1 X3.out).1).trans X3.out)
  have X4 := Lib.hid ((hb.block _ (Array.getElem?_eq_some_iff.1 X4.out).1).trans X4.out)
  clear hb HE
  go_wp2_with (refine wpList_load_row (by rfl) 41 _ (by rfl) (w.heap.size) (by rfl) 41 _ (0, 0) _ (by exact X1.out) Tryz.underlying41 rfl (by kernel_rfl) ?_)
  refine Calls.mono (D1.out _ (HG.out _ B0.out) S1.out) ?_
  rintro e v1 ⟨rfl, hb⟩
  have B0 := Lib.hid (B0.out.trans (hb.mono B0.out.size))
  have S1 := Lib.hid (S1.out.later hb)
  have S2 := Lib.hid (S2.out.later hb)
  have X1 := Lib.hid ((hb.block _ (Array.getElem?_eq_some_iff.1 X1.out).1).trans X1.out)
  have X2 := Lib.hid ((hb.block _ (Array.getElem?_eq_some_iff.1 X2.out).1).trans X2.out)
  have X3 := Lib.hid ((hb.block _ (Array.getElem?_eq_some_iff.1 X3.out).1).trans X3.out)
  have X4 := Lib.hid ((hb.block _ (Array.getElem?_eq_some_iff.1 X4.out).1).trans X4.out)
  clear hb D1
  go_wp2_with (refine wpList_load_row (by rfl) 47 _ (by rfl) (w.heap.size + 1) (by rfl) 47 _ (0, 0) _ (by exact X2.out) Tryz.underlying47 rfl (by kernel_rfl) ?_)
  refine Calls.mono (D2.out _ (HG.out _ B0.out) S2.out) ?_
  rintro e v2 ⟨rfl, hb⟩
  have B0 := Lib.hid (B0.out.trans (hb.mono B0.out.size))
  have S1 := Lib.hid (S1.out.later hb)
  have S2 := Lib.hid (S2.out.later hb)
  have X1 := Lib.hid ((hb.block _ (Array.getElem?_eq_some_iff.1 X1.out).1).trans X1.out)
  have X2 := Lib.hid ((hb.block _ (Array.getElem?_eq_some_iff.1 X2.out).1).trans X2.out)
  have X3 := Lib.hid ((hb.block _ (Array.getElem?_eq_some_iff.1 X3.out).1).trans X3.out)
  have X4 := Lib.hid ((hb.block _ (Array.getElem?_eq_some_iff.1 X4.out).1).trans X4.out)
  clear hb D2
  go_wp2_with (refine wpList_load_row (by rfl) 52 _ (by rfl) (w.heap.size + 1 + 1) (by rfl) 52 _ (0, 0) _ (by exact X3.out) Tryz.underlying52 rfl (by kernel_rfl) ?_)
  refine Calls.mono (D3.out _ (HG.out _ B0.out)) ?_
  rintro e v3 ⟨rfl, hb⟩
  have B0 := Lib.hid (B0.out.trans (hb.mono B0.out.size))
  have S1 := Lib.hid (S1.out.later hb)
  have S2 := Lib.hid (S2.out.later hb)
  have X1 := Lib.hid ((hb.block _ (Array.getElem?_eq_some_iff.1 X1.out).1).trans X1.out)
  have X2 := Lib.hid ((hb.block _ (Array.getElem?_eq_some_iff.1 X2.out).1).trans X2.out)
  have X3 := Lib.hid ((hb.block _ (Array.getElem?_eq_some_iff.1 X3.out).1).trans X3.out)
  have X4 := Lib.hid ((hb.block _ (Array.getElem?_eq_some_iff.1 X4.out).1).trans X4.out)
  clear hb D3
  go_wp2_with (refine wpList_load_row (by rfl) 56 _ (by rfl) (w.heap.size + 1 + 1 + 1) (by rfl) 56 _ (0, 0) _ (by exact X4.out) Tryz.underlying56 rfl (by kernel_rfl) ?_)
  refine Calls.mono (D4.out _ (HG.out _ B0.out)) ?_
  rintro e v4 ⟨rfl, hb⟩
  have B0 := Lib.hid (B0.out.trans (hb.mono B0.out.size))
  have S1 := Lib.hid (S1.out.later hb)
  have S2 := Lib.hid (S2.out.later hb)
  have X1 := Lib.hid ((hb.block _ (Array.getElem?_eq_some_iff.1 X1.out).1).trans X1.out)
  have X2 := Lib.hid ((hb.block _ (Array.getElem?_eq_some_iff.1 X2.out).1).trans X2.out)
  have X3 := Lib.hid ((hb.block _ (Array.getElem?_eq_some_iff.1 X3.out).1).trans X3.out)
  have X4 := Lib.hid ((hb.block _ (Array.getElem?_eq_some_iff.1 X4.out).1).trans X4.out)
  clear hb D4
  go_wp2_with fail
  refine Calls.mono (C1.out _ (HG.out _ B0.out)) ?_
  rintro e r5 ⟨xa, xc, rfl, hsl, hb⟩
  have B0 := Lib.hid (B0.out.trans (hb.mono B0.out.size))
  have S1 := Lib.hid (S1.out.later hb)
  have S2 := Lib.hid (S2.out.later hb)
  have X1 := Lib.hid ((hb.block _ (Array.getElem?_eq_some_iff.1 X1.out).1).trans X1.out)
  have X2 := Lib.hid ((hb.block _ (Array.getElem?_eq_some_iff.1 X2.out).1).trans X2.out)
  have X3 := Lib.hid ((hb.block _ (Array.getElem?_eq_some_iff.1 X3.out).1).trans X3.out)
  have X4 := Lib.hid ((hb.block _ (Array.getElem?_eq_some_iff.1 X4.out).1).trans X4.out)
  have S5 := Lib.hid hsl
  clear hb hsl C1
  have G5 : Hid (w.heap.size + 4 ≤ r5.heap.size) := by have := (Array.getElem?_eq_some_iff.1 X4.out).1; show _ ≤ _; omega
  have hA : Below r5.heap.size r5 ((r5.alloc (.cells bkZeroC 41)).setRow r5.heap.size #[.string ⟨x1.toArray⟩, .string ⟨x2.toArray⟩, .string ⟨x3.toArray⟩, .int .i64 x4, .int .i64 x5, .slice xa xl.length xc]) := below_one_row _ _ _ _ _ (Below.alloc (Below.refl _ _) (Nat.le_refl _) _) (Nat.le_refl _)
  have P7 : Hid ((fun W : World => Below w.heap.size w W ∧ SlAt W 6 (.slice ra rl.length rc) (rlRows rl) ∧ SlAt W 1 (.slice ba bl.length bc) (intRows bl) ∧ W.heap[w.heap.size]? = some (.cells #[.string ⟨k1.toArray⟩, .string ⟨k2.toArray⟩, .string ⟨k3.toArray⟩, .int .i64 k4, .int .i64 k5, .slice ra rl.length rc] 41 (0, 0)) ∧ W.heap[w.heap.size + 1]? = some (.cells #[.int .i64 q1, .bool q2, .bool q3, .string ⟨q4.toArray⟩, .string ⟨q5.toArray⟩, .int .i64 q6, .int .i64 q7, .slice ba bl.length bc] 47 (0, 0)) ∧ W.heap[w.heap.size + 1 + 1]? = some (.cells #[.int .i64 u1, .string ⟨u2.toArray⟩, .string ⟨u3.toArray⟩, .string ⟨u4.toArray⟩, .string ⟨u5.toArray⟩, .int .i64 u6, .slice pa pn pc] 52 (0, 0)) ∧ W.heap[w.heap.size + 1 + 1 + 1]? = some (.cells #[.int .i64 p1, .int .i64 p2, .int .i64 p3, .string ⟨p4.toArray⟩, .int .i64 p5] 56 (0, 0)) ∧ SlAt W 6 (.slice xa xl.length xc) (rlRows xl) ∧ W.heap[r5.heap.size]? = some (.cells #[.string ⟨x1.toArray⟩, .string ⟨x2.toArray⟩, .string ⟨x3.toArray⟩, .int .i64 x4, .int .i64 x5, .slice xa xl.length xc] 41 (0, 0))) ((r5.alloc (.cells bkZeroC 41)).setRow r5.heap.size #[.string ⟨x1.toArray⟩, .string ⟨x2.toArray⟩, .string ⟨x3.toArray⟩, .int .i64 x4, .int .i64 x5, .slice xa xl.length xc])) := ⟨B0.out.trans (hA.mono B0.out.size), S1.out.later hA, S2.out.later hA, (hA.block _ (Array.getElem?_eq_some_iff.1 X1.out).1).trans X1.out, (hA.block _ (Array.getElem?_eq_some_iff.1 X2.out).1).trans X2.out, (hA.block _ (Array.getElem?_eq_some_iff.1 X3.out).1).trans X3.out, (hA.block _ (Array.getElem?_eq_some_iff.1 X4.out).1).trans X4.out, S5.out.later hA, setRow_heap _ _ _ _ _ _ (heap_alloc_new _ _)⟩
  clear hA B0 S1 S2 X1 X2 X3 X4 S5
  go_wp2_with (refine wpList_store_rowN (by rfl) 41 _ _ (by rfl) _ #[.string ⟨x1.toArray⟩, .string ⟨x2.toArray⟩, .string ⟨x3.toArray⟩, .int .i64 x4, .int .i64 x5, .slice xa xl.length xc] (by rfl) (by rfl) 41 _ (by exact heap_alloc_new _ _) (by kernel_rfl) (by kernel_rfl) (by kernel_rfl) (fun W : World => Below w.heap.size w W ∧ SlAt W 6 (.slice ra rl.length rc) (rlRows rl) ∧ SlAt W 1 (.slice ba bl.length bc) (intRows bl) ∧ W.heap[w.heap.size]? = some (.cells #[.string ⟨k1.toArray⟩, .string ⟨k2.toArray⟩, .string ⟨k3.toArray⟩, .int .i64 k4, .int .i64 k5, .slice ra rl.length rc] 41 (0, 0)) ∧ W.heap[w.heap.size + 1]? = some (.cells #[.int .i64 q1, .bool q2, .bool q3, .string ⟨q4.toArray⟩, .string ⟨q5.toArray⟩, .int .i64 q6, .int .i64 q7, .slice ba bl.length bc] 47 (0, 0)) ∧ W.heap[w.heap.size + 1 + 1]? = some (.cells #[.int .i64 u1, .string ⟨u2.toArray⟩, .string ⟨u3.toArray⟩, .string ⟨u4.toArray⟩, .string ⟨u5.toArray⟩, .int .i64 u6, .slice pa pn pc] 52 (0, 0)) ∧ W.heap[w.heap.size + 1 + 1 + 1]? = some (.cells #[.int .i64 p1, .int .i64 p2, .int .i64 p3, .string ⟨p4.toArray⟩, .int .i64 p5] 56 (0, 0)) ∧ SlAt W 6 (.slice xa xl.length xc) (rlRows xl) ∧ W.heap[r5.heap.size]? = some (.cells #[.string ⟨x1.toArray⟩, .string ⟨x2.toArray⟩, .string ⟨x3.toArray⟩, .int .i64 x4, .int .i64 x5, .slice xa xl.length xc] 41 (0, 0))) P7.out ?_
               clear P7
               generalize r5.heap.size = g5 at G5 ⊢
               rintro w5 ⟨B0, S1, S2, X1, X2, X3, X4, S5, X5⟩
               have B0 := Lib.hid B0
               have S1 := Lib.hid S1
               have S2 := Lib.hid S2
               have X1 := Lib.hid X1
               have X2 := Lib.hid X2
               have X3 := Lib.hid X3
               have X4 := Lib.hid X4
               have S5 := Lib.hid S5
               have X5 := Lib.hid X5)
  refine Calls.mono (C2.out _ (HG.out _ B0.out)) ?_
  rintro e r6 ⟨ya, yc, rfl, hsl, hb⟩
  have B0 := Lib.hid (B0.out.trans (hb.mono B0.out.size))
  have S1 := Lib.hid (S1.out.later hb)
  have S2 := Lib.hid (S2.out.later hb)
  have X1 := Lib.hid ((hb.block _ (Array.getElem?_eq_some_iff.1 X1.out).1).trans X1.out)
  have X2 := Lib.hid ((hb.block _ (Array.getElem?_eq_some_iff.1 X2.out).1).trans X2.out)
  have X3 := Lib.hid ((hb.block _ (Array.getElem?_eq_some_iff.1 X3.out).1).trans X3.out)
  have X4 := Lib.hid ((hb.block _ (Array.getElem?_eq_some_iff.1 X4.out).1).trans X4.out)
  have S5 := Lib.hid (S5.out.later hb)
  have X5 := Lib.hid ((hb.block _ (Array.getElem?_eq_some_iff.1 X5.out).1).trans X5.out)
  have S6 := Lib.hid hsl
  clear hb hsl C2
  have G6 : Hid (w.heap.size + 4 ≤ r6.heap.size) := by have := (Array.getElem?_eq_some_iff.1 X4.out).1; show _ ≤ _; omega
  have hA : Below r6.heap.size r6 ((r6.alloc (.cells verZeroC 47)).setRow r6.heap.size #[.int .i64 y1, .bool y2, .bool y3, .string ⟨y4.toArray⟩, .string ⟨y5.toArray⟩, .int .i64 y6, .int .i64 y7, .slice ya yl.length yc]) := below_one_row _ _ _ _ _ (Below.alloc (Below.refl _ _) (Nat.le_refl _) _) (Nat.le_refl _)
  have P7 : Hid ((fun W : World => Below w.heap.size w W ∧ SlAt W 6 (.slice ra rl.length rc) (rlRows rl) ∧ SlAt W 1 (.slice ba bl.length bc) (intRows bl) ∧ W.heap[w.heap.size]? = some (.cells #[.string ⟨k1.toArray⟩, .string ⟨k2.toArray⟩, .string ⟨k3.toArray⟩, .int .i64 k4, .int .i64 k5, .slice ra rl.length rc] 41 (0, 0)) ∧ W.heap[w.heap.size + 1]? = some (.cells #[.int .i64 q1, .bool q2, .bool q3, .string ⟨q4.toArray⟩, .string ⟨q5.toArray⟩, .int .i64 q6, .int .i64 q7, .slice ba bl.length bc] 47 (0, 0)) ∧ W.heap[w.heap.size + 1 + 1]? = some (.cells #[.int .i64 u1, .string ⟨u2.toArray⟩, .string ⟨u3.toArray⟩, .string ⟨u4.toArray⟩, .string ⟨u5.toArray⟩, .int .i64 u6, .slice pa pn pc] 52 (0, 0)) ∧ W.heap[w.heap.size + 1 + 1 + 1]? = some (.cells #[.int .i64 p1, .int .i64 p2, .int .i64 p3, .string ⟨p4.toArray⟩, .int .i64 p5] 56 (0, 0)) ∧ SlAt W 6 (.slice xa xl.length xc) (rlRows xl) ∧ W.heap[g5]? = some (.cells #[.string ⟨x1.toArray⟩, .string ⟨x2.toArray⟩, .string ⟨x3.toArray⟩, .int .i64 x4, .int .i64 x5, .slice xa xl.length xc] 41 (0, 0)) ∧ SlAt W 1 (.slice ya yl.length yc) (intRows yl) ∧ W.heap[r6.heap.size]? = some (.cells #[.int .i64 y1, .bool y2, .bool y3, .string ⟨y4.toArray⟩, .string ⟨y5.toArray⟩, .int .i64 y6, .int .i64 y7, .slice ya yl.length yc] 47 (0, 0))) ((r6.alloc (.cells verZeroC 47)).setRow r6.heap.size #[.int .i64 y1, .bool y2, .bool y3, .string ⟨y4.toArray⟩, .string ⟨y5.toArray⟩, .int .i64 y6, .int .i64 y7, .slice ya yl.length yc])) := ⟨B0.out.trans (hA.mono B0.out.size), S1.out.later hA, S2.out.later hA, (hA.block _ (Array.getElem?_eq_some_iff.1 X1.out).1).trans X1.out, (hA.block _ (Array.getElem?_eq_some_iff.1 X2.out).1).trans X2.out, (hA.block _ (Array.getElem?_eq_some_iff.1 X3.out).1).trans X3.out, (hA.block _ (Array.getElem?_eq_some_iff.1 X4.out).1).trans X4.out, S5.out.later hA, (hA.block _ (Array.getElem?_eq_some_iff.1 X5.out).1).trans X5.out, S6.out.later hA, setRow_heap _ _ _ _ _ _ (heap_alloc_new _ _)⟩
  clear hA B0 S1 S2 X1 X2 X3 X4 S5 X5 S6
  go_wp2_with (refine wpList_store_rowN (by rfl) 47 _ _ (by rfl) _ #[.int .i64 y1, .bool y2, .bool y3, .string ⟨y4.toArray⟩, .string ⟨y5.toArray⟩, .int .i64 y6, .int .i64 y7, .slice ya yl.length yc] (by rfl) (by rfl) 47 _ (by exact heap_alloc_new _ _) (by kernel_rfl) (by kernel_rfl) (by kernel_rfl) (fun W : World => Below w.heap.size w W ∧ SlAt W 6 (.slice ra rl.length rc) (rlRows rl) ∧ SlAt W 1 (.slice ba bl.length bc) (intRows bl) ∧ W.heap[w.heap.size]? = some (.cells #[.string ⟨k1.toArray⟩, .string ⟨k2.toArray⟩, .string ⟨k3.toArray⟩, .int .i64 k4, .int .i64 k5, .slice ra rl.length rc] 41 (0, 0)) ∧ W.heap[w.heap.size + 1]? = some (.cells #[.int .i64 q1, .bool q2, .bool q3, .string ⟨q4.toArray⟩, .string ⟨q5.toArray⟩, .int .i64 q6, .int .i64 q7, .slice ba bl.length bc] 47 (0, 0)) ∧ W.heap[w.heap.size + 1 + 1]? = some (.cells #[.int .i64 u1, .string ⟨u2.toArray⟩, .string ⟨u3.toArray⟩, .string ⟨u4.toArray⟩, .string ⟨u5.toArray⟩, .int .i64 u6, .slice pa pn pc] 52 (0, 0)) ∧ W.heap[w.heap.size + 1 + 1 + 1]? = some (.cells #[.int .i64 p1, .int .i64 p2, .int .i64 p3, .string ⟨p4.toArray⟩, .int .i64 p5] 56 (0, 0)) ∧ SlAt W 6 (.slice xa xl.length xc) (rlRows xl) ∧ W.heap[g5]? = some (.cells #[.string ⟨x1.toArray⟩, .string ⟨x2.toArray⟩, .string ⟨x3.toArray⟩, .int .i64 x4, .int .i64 x5, .slice xa xl.length xc] 41 (0, 0)) ∧ SlAt W 1 (.slice ya yl.length yc) (intRows yl) ∧ W.heap[r6.heap.size]? = some (.cells #[.int .i64 y1, .bool y2, .bool y3, .string ⟨y4.toArray⟩, .string ⟨y5.toArray⟩, .int .i64 y6, .int .i64 y7, .slice ya yl.length yc] 47 (0, 0))) P7.out ?_
               clear P7
               generalize r6.heap.size = g6 at G6 ⊢
               rintro w6 ⟨B0, S1, S2, X1, X2, X3, X4, S5, X5, S6, X6⟩
               have B0 := Lib.hid B0
               have S1 := Lib.hid S1
               have S2 := Lib.hid S2
               have X1 := Lib.hid X1
               have X2 := Lib.hid X2
               have X3 := Lib.hid X3
               have X4 := Lib.hid X4
               have S5 := Lib.hid S5
               have X5 := Lib.hid X5
               have S6 := Lib.hid S6
               have X6 := Lib.hid X6)
  refine Calls.mono (C3.out _ (HG.out _ B0.out)) ?_
  rintro e r7 ⟨rfl, hb⟩
  have B0 := Lib.hid (B0.out.trans (hb.mono B0.out.size))
  have S1 := Lib.hid (S1.out.later hb)
  have S2 := Lib.hid (S2.out.later hb)
  have X1 := Lib.hid ((hb.block _ (Array.getElem?_eq_some_iff.1 X1.out).1).trans X1.out)
  have X2 := Lib.hid ((hb.block _ (Array.getElem?_eq_some_iff.1 X2.out).1).trans X2.out)
  have X3 := Lib.hid ((hb.block _ (Array.getElem?_eq_some_iff.1 X3.out).1).trans X3.out)
  have X4 := Lib.hid ((hb.block _ (Array.getElem?_eq_some_iff.1 X4.out).1).trans X4.out)
  have S5 := Lib.hid (S5.out.later hb)
  have X5 := Lib.hid ((hb.block _ (Array.getElem?_eq_some_iff.1 X5.out).1).trans X5.out)
  have S6 := Lib.hid (S6.out.later hb)
  have X6 := Lib.hid ((hb.block _ (Array.getElem?_eq_some_iff.1 X6.out).1).trans X6.out)
  clear hb C3
  have G7 : Hid (w.heap.size + 4 ≤ r7.heap.size) := by have := (Array.getElem?_eq_some_iff.1 X4.out).1; show _ ≤ _; omega
  have hA : Below r7.heap.size r7 ((r7.alloc (.cells upZero 52)).setRow r7.heap.size #[.int .i64 z1, .string ⟨z2.toArray⟩, .string ⟨z3.toArray⟩, .string ⟨z4.toArray⟩, .string ⟨z5.toArray⟩, .int .i64 z6, .slice none 0 0]) := below_one_row _ _ _ _ _ (Below.alloc (Below.refl _ _) (Nat.le_refl _) _) (Nat.le_refl _)
  have P7 : Hid ((fun W : World => Below w.heap.size w W ∧ SlAt W 6 (.slice ra rl.length rc) (rlRows rl) ∧ SlAt W 1 (.slice ba bl.length bc) (intRows bl) ∧ W.heap[w.heap.size]? = some (.cells #[.string ⟨k1.toArray⟩, .string ⟨k2.toArray⟩, .string ⟨k3.toArray⟩, .int .i64 k4, .int .i64 k5, .slice ra rl.length rc] 41 (0, 0)) ∧ W.heap[w.heap.size + 1]? = some (.cells #[.int .i64 q1, .bool q2, .bool q3, .string ⟨q4.toArray⟩, .string ⟨q5.toArray⟩, .int .i64 q6, .int .i64 q7, .slice ba bl.length bc] 47 (0, 0)) ∧ W.heap[w.heap.size + 1 + 1]? = some (.cells #[.int .i64 u1, .string ⟨u2.toArray⟩, .string ⟨u3.toArray⟩, .string ⟨u4.toArray⟩, .string ⟨u5.toArray⟩, .int .i64 u6, .slice pa pn pc] 52 (0, 0)) ∧ W.heap[w.heap.size + 1 + 1 + 1]? = some (.cells #[.int .i64 p1, .int .i64 p2, .int .i64 p3, .string ⟨p4.toArray⟩, .int .i64 p5] 56 (0, 0)) ∧ SlAt W 6 (.slice xa xl.length xc) (rlRows xl) ∧ W.heap[g5]? = some (.cells #[.string ⟨x1.toArray⟩, .string ⟨x2.toArray⟩, .string ⟨x3.toArray⟩, .int .i64 x4, .int .i64 x5, .slice xa xl.length xc] 41 (0, 0)) ∧ SlAt W 1 (.slice ya yl.length yc) (intRows yl) ∧ W.heap[g6]? = some (.cells #[.int .i64 y1, .bool y2, .bool y3, .string ⟨y4.toArray⟩, .string ⟨y5.toArray⟩, .int .i64 y6, .int .i64 y7, .slice ya yl.length yc] 47 (0, 0)) ∧ W.heap[r7.heap.size]? = some (.cells #[.int .i64 z1, .string ⟨z2.toArray⟩, .string ⟨z3.toArray⟩, .string ⟨z4.toArray⟩, .string ⟨z5.toArray⟩, .int .i64 z6, .slice none 0 0] 52 (0, 0))) ((r7.alloc (.cells upZero 52)).setRow r7.heap.size #[.int .i64 z1, .string ⟨z2.toArray⟩, .string ⟨z3.toArray⟩, .string ⟨z4.toArray⟩, .string ⟨z5.toArray⟩, .int .i64 z6, .slice none 0 0])) := ⟨B0.out.trans (hA.mono B0.out.size), S1.out.later hA, S2.out.later hA, (hA.block _ (Array.getElem?_eq_some_iff.1 X1.out).1).trans X1.out, (hA.block _ (Array.getElem?_eq_some_iff.1 X2.out).1).trans X2.out, (hA.block _ (Array.getElem?_eq_some_iff.1 X3.out).1).trans X3.out, (hA.block _ (Array.getElem?_eq_some_iff.1 X4.out).1).trans X4.out, S5.out.later hA, (hA.block _ (Array.getElem?_eq_some_iff.1 X5.out).1).trans X5.out, S6.out.later hA, (hA.block _ (Array.getElem?_eq_some_iff.1 X6.out).1).trans X6.out, setRow_heap _ _ _ _ _ _ (heap_alloc_new _ _)⟩
  clear hA B0 S1 S2 X1 X2 X3 X4 S5 X5 S6 X6
  go_wp2_with (refine wpList_store_rowN (by rfl) 52 _ _ (by rfl) _ #[.int .i64 z1, .string ⟨z2.toArray⟩, .string ⟨z3.toArray⟩, .string ⟨z4.toArray⟩, .string ⟨z5.toArray⟩, .int .i64 z6, .slice none 0 0] (by rfl) (by rfl) 52 _ (by exact heap_alloc_new _ _) (by kernel_rfl) (by kernel_rfl) (by kernel_rfl) (fun W : World => Below w.heap.size w W ∧ SlAt W 6 (.slice ra rl.length rc) (rlRows rl) ∧ SlAt W 1 (.slice ba bl.length bc) (intRows bl) ∧ W.heap[w.heap.size]? = some (.cells #[.string ⟨k1.toArray⟩, .string ⟨k2.toArray⟩, .string ⟨k3.toArray⟩, .int .i64 k4, .int .i64 k5, .slice ra rl.length rc] 41 (0, 0)) ∧ W.heap[w.heap.size + 1]? = some (.cells #[.int .i64 q1, .bool q2, .bool q3, .string ⟨q4.toArray⟩, .string ⟨q5.toArray⟩, .int .i64 q6, .int .i64 q7, .slice ba bl.length bc] 47 (0, 0)) ∧ W.heap[w.heap.size + 1 + 1]? = some (.cells #[.int .i64 u1, .string ⟨u2.toArray⟩, .string ⟨u3.toArray⟩, .string ⟨u4.toArray⟩, .string ⟨u5.toArray⟩, .int .i64 u6, .slice pa pn pc] 52 (0, 0)) ∧ W.heap[w.heap.size + 1 + 1 + 1]? = some (.cells #[.int .i64 p1, .int .i64 p2, .int .i64 p3, .string ⟨p4.toArray⟩, .int .i64 p5] 56 (0, 0)) ∧ SlAt W 6 (.slice xa xl.length xc) (rlRows xl) ∧ W.heap[g5]? = some (.cells #[.string ⟨x1.toArray⟩, .string ⟨x2.toArray⟩, .string ⟨x3.toArray⟩, .int .i64 x4, .int .i64 x5, .slice xa xl.length xc] 41 (0, 0)) ∧ SlAt W 1 (.slice ya yl.length yc) (intRows yl) ∧ W.heap[g6]? = some (.cells #[.int .i64 y1, .bool y2, .bool y3, .string ⟨y4.toArray⟩, .string ⟨y5.toArray⟩, .int .i64 y6, .int .i64 y7, .slice ya yl.length yc] 47 (0, 0)) ∧ W.heap[r7.heap.size]? = some (.cells #[.int .i64 z1, .string ⟨z2.toArray⟩, .string ⟨z3.toArray⟩, .string ⟨z4.toArray⟩, .string ⟨z5.toArray⟩, .int .i64 z6, .slice none 0 0] 52 (0, 0))) P7.out ?_
               clear P7
               generalize r7.heap.size = g7 at G7 ⊢
               rintro w7 ⟨B0, S1, S2, X1, X2, X3, X4, S5, X5, S6, X6, X7⟩
               have B0 := Lib.hid B0
               have S1 := Lib.hid S1
               have S2 := Lib.hid S2
               have X1 := Lib.hid X1
               have X2 := Lib.hid X2
               have X3 := Lib.hid X3
               have X4 := Lib.hid X4
               have S5 := Lib.hid S5
               have X5 := Lib.hid X5
               have S6 := Lib.hid S6
               have X6 := Lib.hid X6
               have X7 := Lib.hid X7)
  refine Calls.mono (C4.out _ (HG.out _ B0.out)) ?_
  rintro e r8 ⟨rfl, hb⟩
  have B0 := Lib.hid (B0.out.trans (hb.mono B0.out.size))
  have S1 := Lib.hid (S1.out.later hb)
  have S2 := Lib.hid (S2.out.later hb)
  have X1 := Lib.hid ((hb.block _ (Array.getElem?_eq_some_iff.1 X1.out).1).trans X1.out)
  have X2 := Lib.hid ((hb.block _ (Array.getElem?_eq_some_iff.1 X2.out).1).trans X2.out)
  have X3 := Lib.hid ((hb.block _ (Array.getElem?_eq_some_iff.1 X3.out).1).trans X3.out)
  have X4 := Lib.hid ((hb.block _ (Array.getElem?_eq_some_iff.1 X4.out).1).trans X4.out)
  have S5 := Lib.hid (S5.out.later hb)
  have X5 := Lib.hid ((hb.block _ (Array.getElem?_eq_some_iff.1 X5.out).1).trans X5.out)
  have S6 := Lib.hid (S6.out.later hb)
  have X6 := Lib.hid ((hb.block _ (Array.getElem?_eq_some_iff.1 X6.out).1).trans X6.out)
  have X7 := Lib.hid ((hb.block _ (Array.getElem?_eq_some_iff.1 X7.out).1).trans X7.out)
  clear hb C4
  have G8 : Hid (w.heap.size + 4 ≤ r8.heap.size) := by have := (Array.getElem?_eq_some_iff.1 X4.out).1; show _ ≤ _; omega
  have hA : Below r8.heap.size r8 ((r8.alloc (.cells partZero 56)).setRow r8.heap.size #[.int .i64 s1, .int .i64 s2, .int .i64 s3, .string ⟨s4.toArray⟩, .int .i64 s5]) := below_one_row _ _ _ _ _ (Below.alloc (Below.refl _ _) (Nat.le_refl _) _) (Nat.le_refl _)
  have P7 : Hid ((fun W : World => Below w.heap.size w W ∧ SlAt W 6 (.slice ra rl.length rc) (rlRows rl) ∧ SlAt W 1 (.slice ba bl.length bc) (intRows bl) ∧ W.heap[w.heap.size]? = some (.cells #[.string ⟨k1.toArray⟩, .string ⟨k2.toArray⟩, .string ⟨k3.toArray⟩, .int .i64 k4, .int .i64 k5, .slice ra rl.length rc] 41 (0, 0)) ∧ W.heap[w.heap.size + 1]? = some (.cells #[.int .i64 q1, .bool q2, .bool q3, .string ⟨q4.toArray⟩, .string ⟨q5.toArray⟩, .int .i64 q6, .int .i64 q7, .slice ba bl.length bc] 47 (0, 0)) ∧ W.heap[w.heap.size + 1 + 1]? = some (.cells #[.int .i64 u1, .string ⟨u2.toArray⟩, .string ⟨u3.toArray⟩, .string ⟨u4.toArray⟩, .string ⟨u5.toArray⟩, .int .i64 u6, .slice pa pn pc] 52 (0, 0)) ∧ W.heap[w.heap.size + 1 + 1 + 1]? = some (.cells #[.int .i64 p1, .int .i64 p2, .int .i64 p3, .string ⟨p4.toArray⟩, .int .i64 p5] 56 (0, 0)) ∧ SlAt W 6 (.slice xa xl.length xc) (rlRows xl) ∧ W.heap[g5]? = some (.cells #[.string ⟨x1.toArray⟩, .string ⟨x2.toArray⟩, .string ⟨x3.toArray⟩, .int .i64 x4, .int .i64 x5, .slice xa xl.length xc] 41 (0, 0)) ∧ SlAt W 1 (.slice ya yl.length yc) (intRows yl) ∧ W.heap[g6]? = some (.cells #[.int .i64 y1, .bool y2, .bool y3, .string ⟨y4.toArray⟩, .string ⟨y5.toArray⟩, .int .i64 y6, .int .i64 y7, .slice ya yl.length yc] 47 (0, 0)) ∧ W.heap[g7]? = some (.cells #[.int .i64 z1, .string ⟨z2.toArray⟩, .string ⟨z3.toArray⟩, .string ⟨z4.toArray⟩, .string ⟨z5.toArray⟩, .int .i64 z6, .slice none 0 0] 52 (0, 0)) ∧ W.heap[r8.heap.size]? = some (.cells #[.int .i64 s1, .int .i64 s2, .int .i64 s3, .string ⟨s4.toArray⟩, .int .i64 s5] 56 (0, 0))) ((r8.alloc (.cells partZero 56)).setRow r8.heap.size #[.int .i64 s1, .int .i64 s2, .int .i64 s3, .string ⟨s4.toArray⟩, .int .i64 s5])) := ⟨B0.out.trans (hA.mono B0.out.size), S1.out.later hA, S2.out.later hA, (hA.block _ (Array.getElem?_eq_some_iff.1 X1.out).1).trans X1.out, (hA.block _ (Array.getElem?_eq_some_iff.1 X2.out).1).trans X2.out, (hA.block _ (Array.getElem?_eq_some_iff.1 X3.out).1).trans X3.out, (hA.block _ (Array.getElem?_eq_some_iff.1 X4.out).1).trans X4.out, S5.out.later hA, (hA.block _ (Array.getElem?_eq_some_iff.1 X5.out).1).trans X5.out, S6.out.later hA, (hA.block _ (Array.getElem?_eq_some_iff.1 X6.out).1).trans X6.out, (hA.block _ (Array.getElem?_eq_some_iff.1 X7.out).1).trans X7.out, setRow_heap _ _ _ _ _ _ (heap_alloc_new _ _)⟩
  clear hA B0 S1 S2 X1 X2 X3 X4 S5 X5 S6 X6 X7
  go_upto_region 11 with (first
    | (refine wpList_store_rowN (by rfl) 56 _ _ (by rfl) _ #[.int .i64 s1, .int .i64 s2, .int .i64 s3, .string ⟨s4.toArray⟩, .int .i64 s5] (by rfl) (by rfl) 56 _ (by exact heap_alloc_new _ _) (by kernel_rfl) (by kernel_rfl) (by kernel_rfl) (fun W : World => Below w.heap.size w W ∧ SlAt W 6 (.slice ra rl.length rc) (rlRows rl) ∧ SlAt W 1 (.slice ba bl.length bc) (intRows bl) ∧ W.heap[w.heap.size]? = some (.cells #[.string ⟨k1.toArray⟩, .string ⟨k2.toArray⟩, .string ⟨k3.toArray⟩, .int .i64 k4, .int .i64 k5, .slice ra rl.length rc] 41 (0, 0)) ∧ W.heap[w.heap.size + 1]? = some (.cells #[.int .i64 q1, .bool q2, .bool q3, .string ⟨q4.toArray⟩, .string ⟨q5.toArray⟩, .int .i64 q6, .int .i64 q7, .slice ba bl.length bc] 47 (0, 0)) ∧ W.heap[w.heap.size + 1 + 1]? = some (.cells #[.int .i64 u1, .string ⟨u2.toArray⟩, .string ⟨u3.toArray⟩, .string ⟨u4.toArray⟩, .string ⟨u5.toArray⟩, .int .i64 u6, .slice pa pn pc] 52 (0, 0)) ∧ W.heap[w.heap.size + 1 + 1 + 1]? = some (.cells #[.int .i64 p1, .int .i64 p2, .int .i64 p3, .string ⟨p4.toArray⟩, .int .i64 p5] 56 (0, 0)) ∧ SlAt W 6 (.slice xa xl.length xc) (rlRows xl) ∧ W.heap[g5]? = some (.cells #[.string ⟨x1.toArray⟩, .string ⟨x2.toArray⟩, .string ⟨x3.toArray⟩, .int .i64 x4, .int .i64 x5, .slice xa xl.length xc] 41 (0, 0)) ∧ SlAt W 1 (.slice ya yl.length yc) (intRows yl) ∧ W.heap[g6]? = some (.cells #[.int .i64 y1, .bool y2, .bool y3, .string ⟨y4.toArray⟩, .string ⟨y5.toArray⟩, .int .i64 y6, .int .i64 y7, .slice ya yl.length yc] 47 (0, 0)) ∧ W.heap[g7]? = some (.cells #[.int .i64 z1, .string ⟨z2.toArray⟩, .string ⟨z3.toArray⟩, .string ⟨z4.toArray⟩, .string ⟨z5.toArray⟩, .int .i64 z6, .slice none 0 0] 52 (0, 0)) ∧ W.heap[r8.heap.size]? = some (.cells #[.int .i64 s1, .int .i64 s2, .int .i64 s3, .string ⟨s4.toArray⟩, .int .i64 s5] 56 (0, 0))) P7.out ?_
       clear P7
       generalize r8.heap.size = g8 at G8 ⊢
       rintro w8 ⟨B0, S1, S2, X1, X2, X3, X4, S5, X5, S6, X6, X7, X8⟩
       have B0 := Lib.hid B0
       have S1 := Lib.hid S1
       have S2 := Lib.hid S2
       have X1 := Lib.hid X1
       have X2 := Lib.hid X2
       have X3 := Lib.hid X3
       have X4 := Lib.hid X4
       have S5 := Lib.hid S5
       have X5 := Lib.hid X5
       have S6 := Lib.hid S6
       have X6 := Lib.hid X6
       have X7 := Lib.hid X7
       have X8 := Lib.hid X8)
    | (have hd : ∀ (o : Nat) (u : Value), (#[.int .i64 u1, .string ⟨u2.toArray⟩, .string ⟨u3.toArray⟩, .string ⟨u4.toArray⟩, .string ⟨u5.toArray⟩, .int .i64 u6, .slice pa pn pc])[o]? = some u → notSl u = true → (#[.int .i64 u1, .string ⟨u2.toArray⟩, .string ⟨u3.toArray⟩, .string ⟨u4.toArray⟩, .string ⟨u5.toArray⟩, .int .i64 u6, .slice none 0 0])[o]? = some u := by
         intro o u ho hn
         rcases o with _ | _ | _ | _ | _ | _ | _ | o
         all_goals first
           | exact ho
           | (exfalso; simp at ho; subst ho; simp [notSl] at hn; done)
           | (simp at ho)
       have P8 : Hid ((fun W : World => Below w.heap.size w W ∧ SlAt W 6 (.slice ra rl.length rc) (rlRows rl) ∧ SlAt W 1 (.slice ba bl.length bc) (intRows bl) ∧ W.heap[w.heap.size]? = some (.cells #[.string ⟨k1.toArray⟩, .string ⟨k2.toArray⟩, .string ⟨k3.toArray⟩, .int .i64 k4, .int .i64 k5, .slice ra rl.length rc] 41 (0, 0)) ∧ W.heap[w.heap.size + 1]? = some (.cells #[.int .i64 q1, .bool q2, .bool q3, .string ⟨q4.toArray⟩, .string ⟨q5.toArray⟩, .int .i64 q6, .int .i64 q7, .slice ba bl.length bc] 47 (0, 0)) ∧ W.heap[w.heap.size + 1 + 1]? = some (.cells #[.int .i64 u1, .string ⟨u2.toArray⟩, .string ⟨u3.toArray⟩, .string ⟨u4.toArray⟩, .string ⟨u5.toArray⟩, .int .i64 u6, .slice none 0 0] 52 (0, 0)) ∧ W.heap[w.heap.size + 1 + 1 + 1]? = some (.cells #[.int .i64 p1, .int .i64 p2, .int .i64 p3, .string ⟨p4.toArray⟩, .int .i64 p5] 56 (0, 0)) ∧ SlAt W 6 (.slice xa xl.length xc) (rlRows xl) ∧ W.heap[g5]? = some (.cells #[.string ⟨x1.toArray⟩, .string ⟨x2.toArray⟩, .string ⟨x3.toArray⟩, .int .i64 x4, .int .i64 x5, .slice xa xl.length xc] 41 (0, 0)) ∧ SlAt W 1 (.slice ya yl.length yc) (intRows yl) ∧ W.heap[g6]? = some (.cells #[.int .i64 y1, .bool y2, .bool y3, .string ⟨y4.toArray⟩, .string ⟨y5.toArray⟩, .int .i64 y6, .int .i64 y7, .slice ya yl.length yc] 47 (0, 0)) ∧ W.heap[g7]? = some (.cells #[.int .i64 z1, .string ⟨z2.toArray⟩, .string ⟨z3.toArray⟩, .string ⟨z4.toArray⟩, .string ⟨z5.toArray⟩, .int .i64 z6, .slice none 0 0] 52 (0, 0)) ∧ W.heap[g8]? = some (.cells #[.int .i64 s1, .int .i64 s2, .int .i64 s3, .string ⟨s4.toArray⟩, .int .i64 s5] 56 (0, 0))) (w8.setRow (w.heap.size + 1 + 1) #[.int .i64 u1, .string ⟨u2.toArray⟩, .string ⟨u3.toArray⟩, .string ⟨u4.toArray⟩, .string ⟨u5.toArray⟩, .int .i64 u6, .slice none 0 0])) := ⟨below_one_row _ _ _ _ _ B0.out (by omega), S1.out.gone X3.out hd (rl_notSl _), S2.out.gone X3.out hd (int_notSl _), (setRow_other _ _ _ _ (by omega)).trans X1.out, (setRow_other _ _ _ _ (by omega)).trans X2.out, setRow_heap _ _ _ _ _ _ X3.out, (setRow_other _ _ _ _ (by omega)).trans X4.out, S5.out.gone X3.out hd (rl_notSl _), (setRow_other _ _ _ _ (by have := G5.out; omega)).trans X5.out, S6.out.gone X3.out hd (int_notSl _), (setRow_other _ _ _ _ (by have := G6.out; omega)).trans X6.out, (setRow_other _ _ _ _ (by have := G7.out; omega)).trans X7.out, (setRow_other _ _ _ _ (by have := G8.out; omega)).trans X8.out⟩
       clear hd
       refine wpList_store_cellN (by rfl) 50 _ _ (by rfl) (w.heap.size + 1 + 1) 6 (.slice none 0 0) (by rfl) (by rfl) (by rfl) _ 52 X3.out (by simp) (by kernel_rfl) (fun W : World => Below w.heap.size w W ∧ SlAt W 6 (.slice ra rl.length rc) (rlRows rl) ∧ SlAt W 1 (.slice ba bl.length bc) (intRows bl) ∧ W.heap[w.heap.size]? = some (.cells #[.string ⟨k1.toArray⟩, .string ⟨k2.toArray⟩, .string ⟨k3.toArray⟩, .int .i64 k4, .int .i64 k5, .slice ra rl.length rc] 41 (0, 0)) ∧ W.heap[w.heap.size + 1]? = some (.cells #[.int .i64 q1, .bool q2, .bool q3, .string ⟨q4.toArray⟩, .string ⟨q5.toArray⟩, .int .i64 q6, .int .i64 q7, .slice ba bl.length bc] 47 (0, 0)) ∧ W.heap[w.heap.size + 1 + 1]? = some (.cells #[.int .i64 u1, .string ⟨u2.toArray⟩, .string ⟨u3.toArray⟩, .string ⟨u4.toArray⟩, .string ⟨u5.toArray⟩, .int .i64 u6, .slice none 0 0] 52 (0, 0)) ∧ W.heap[w.heap.size + 1 + 1 + 1]? = some (.cells #[.int .i64 p1, .int .i64 p2, .int .i64 p3, .string ⟨p4.toArray⟩, .int .i64 p5] 56 (0, 0)) ∧ SlAt W 6 (.slice xa xl.length xc) (rlRows xl) ∧ W.heap[g5]? = some (.cells #[.string ⟨x1.toArray⟩, .string ⟨x2.toArray⟩, .string ⟨x3.toArray⟩, .int .i64 x4, .int .i64 x5, .slice xa xl.length xc] 41 (0, 0)) ∧ SlAt W 1 (.slice ya yl.length yc) (intRows yl) ∧ W.heap[g6]? = some (.cells #[.int .i64 y1, .bool y2, .bool y3, .string ⟨y4.toArray⟩, .string ⟨y5.toArray⟩, .int .i64 y6, .int .i64 y7, .slice ya yl.length yc] 47 (0, 0)) ∧ W.heap[g7]? = some (.cells #[.int .i64 z1, .string ⟨z2.toArray⟩, .string ⟨z3.toArray⟩, .string ⟨z4.toArray⟩, .string ⟨z5.toArray⟩, .int .i64 z6, .slice none 0 0] 52 (0, 0)) ∧ W.heap[g8]? = some (.cells #[.int .i64 s1, .int .i64 s2, .int .i64 s3, .string ⟨s4.toArray⟩, .int .i64 s5] 56 (0, 0))) P8.out ?_
       clear P8 B0 S1 S2 X1 X2 X3 X4 S5 X5 S6 X6 X7 X8
       rintro w9 ⟨B0, S1, S2, X1, X2, X3, X4, S5, X5, S6, X6, X7, X8⟩
       have B0 := Lib.hid B0
       have S1 := Lib.hid S1
       have S2 := Lib.hid S2
       have X1 := Lib.hid X1
       have X2 := Lib.hid X2
       have X3 := Lib.hid X3
       have X4 := Lib.hid X4
       have S5 := Lib.hid S5
       have X5 := Lib.hid X5
       have S6 := Lib.hid S6
       have X6 := Lib.hid X6
       have X7 := Lib.hid X7
       have X8 := Lib.hid X8))
  simp only [Act.put]
  go_cut [26] (fun sx wx => sx = .bool true ∧ (fun W : World => Below w.heap.size w W ∧ SlAt W 6 (.slice ra rl.length rc) (rlRows rl) ∧ SlAt W 1 (.slice ba bl.length bc) (intRows bl) ∧ W.heap[w.heap.size]? = some (.cells #[.string ⟨k1.toArray⟩, .string ⟨k2.toArray⟩, .string ⟨k3.toArray⟩, .int .i64 k4, .int .i64 k5, .slice ra rl.length rc] 41 (0, 0)) ∧ W.heap[w.heap.size + 1]? = some (.cells #[.int .i64 q1, .bool q2, .bool q3, .string ⟨q4.toArray⟩, .string ⟨q5.toArray⟩, .int .i64 q6, .int .i64 q7, .slice ba bl.length bc] 47 (0, 0)) ∧ W.heap[w.heap.size + 1 + 1]? = some (.cells #[.int .i64 u1, .string ⟨u2.toArray⟩, .string ⟨u3.toArray⟩, .string ⟨u4.toArray⟩, .string ⟨u5.toArray⟩, .int .i64 u6, .slice none 0 0] 52 (0, 0)) ∧ W.heap[w.heap.size + 1 + 1 + 1]? = some (.cells #[.int .i64 p1, .int .i64 p2, .int .i64 p3, .string ⟨p4.toArray⟩, .int .i64 p5] 56 (0, 0)) ∧ SlAt W 6 (.slice xa xl.length xc) (rlRows xl) ∧ W.heap[g5]? = some (.cells #[.string ⟨x1.toArray⟩, .string ⟨x2.toArray⟩, .string ⟨x3.toArray⟩, .int .i64 x4, .int .i64 x5, .slice xa xl.length xc] 41 (0, 0)) ∧ SlAt W 1 (.slice ya yl.length yc) (intRows yl) ∧ W.heap[g6]? = some (.cells #[.int .i64 y1, .bool y2, .bool y3, .string ⟨y4.toArray⟩, .string ⟨y5.toArray⟩, .int .i64 y6, .int .i64 y7, .slice ya yl.length yc] 47 (0, 0)) ∧ W.heap[g7]? = some (.cells #[.int .i64 z1, .string ⟨z2.toArray⟩, .string ⟨z3.toArray⟩, .string ⟨z4.toArray⟩, .string ⟨z5.toArray⟩, .int .i64 z6, .slice none 0 0] 52 (0, 0)) ∧ W.heap[g8]? = some (.cells #[.int .i64 s1, .int .i64 s2, .int .i64 s3, .string ⟨s4.toArray⟩, .int .i64 s5] 56 (0, 0))) wx)
  case first =>
    rcases EB.out with rfl | ⟨rfl, rfl, hx⟩
    · go_wp2_with fail
      go_meet
      case rel => exact ⟨rfl, B0.out, S1.out, S2.out, X1.out, X2.out, X3.out, X4.out, S5.out, X5.out, S6.out, X6.out, X7.out, X8.out⟩
    · cases hx
      go_wp2_with (first
        | (refine wpList_wanted (by kernel_rfl) (wp_load_row 41 _ (by rfl) (g5) (by rfl) 41 _ (0, 0) _ (by exact X5.out) Tryz.underlying41 rfl (by kernel_rfl) ?_))
        | (refine wpList_wanted (by kernel_rfl) (wp_load_row 41 _ (by rfl) (w.heap.size) (by rfl) 41 _ (0, 0) _ (by exact X1.out) Tryz.underlying41 rfl (by kernel_rfl) ?_)))
      refine Calls.mono (sameBk_any ⟨_, _, _, _, _, _⟩ _ _ _ S5.out S1.out) ?_
      rintro e wy ⟨rfl, hb⟩
      have B0 := Lib.hid (B0.out.trans (hb.mono B0.out.size))
      have S1 := Lib.hid (S1.out.later hb)
      have S2 := Lib.hid (S2.out.later hb)
      have X1 := Lib.hid ((hb.block _ (Array.getElem?_eq_some_iff.1 X1.out).1).trans X1.out)
      have X2 := Lib.hid ((hb.block _ (Array.getElem?_eq_some_iff.1 X2.out).1).trans X2.out)
      have X3 := Lib.hid ((hb.block _ (Array.getElem?_eq_some_iff.1 X3.out).1).trans X3.out)
      have X4 := Lib.hid ((hb.block _ (Array.getElem?_eq_some_iff.1 X4.out).1).trans X4.out)
      have S5 := Lib.hid (S5.out.later hb)
      have X5 := Lib.hid ((hb.block _ (Array.getElem?_eq_some_iff.1 X5.out).1).trans X5.out)
      have S6 := Lib.hid (S6.out.later hb)
      have X6 := Lib.hid ((hb.block _ (Array.getElem?_eq_some_iff.1 X6.out).1).trans X6.out)
      have X7 := Lib.hid ((hb.block _ (Array.getElem?_eq_some_iff.1 X7.out).1).trans X7.out)
      have X8 := Lib.hid ((hb.block _ (Array.getElem?_eq_some_iff.1 X8.out).1).trans X8.out)
      clear hb
      go_wp2_with fail
      go_meet
      case rel => exact ⟨rfl, B0.out, S1.out, S2.out, X1.out, X2.out, X3.out, X4.out, S5.out, X5.out, S6.out, X6.out, X7.out, X8.out⟩
  case rest =>
  obtain ⟨rfl, B0, kS1, kS2, kX1, kX2, kX3, kX4, kS5, kX5, kS6, kX6, kX7, kX8⟩ := hcut
  obtain ⟨y11, rfl⟩ : ∃ wx : World, wx = wc := ⟨_, rfl⟩
  have B0 := Lib.hid B0
  clear S1 S2 X1 X2 X3 X4 S5 X5 S6 X6 X7 X8
  have S1 := Lib.hid kS1
  have S2 := Lib.hid kS2
  have X1 := Lib.hid kX1
  have X2 := Lib.hid kX2
  have X3 := Lib.hid kX3
  have X4 := Lib.hid kX4
  have S5 := Lib.hid kS5
  have X5 := Lib.hid kX5
  have S6 := Lib.hid kS6
  have X6 := Lib.hid kX6
  have X7 := Lib.hid kX7
  have X8 := Lib.hid kX8
  clear kS1 kS2 kX1 kX2 kX3 kX4 kS5 kX5 kS6 kX6 kX7 kX8
  go_upto_region 12 with (fail)
  go_cut [27] (fun sx wx => sx = .bool true ∧ (fun W : World => Below w.heap.size w W ∧ SlAt W 6 (.slice ra rl.length rc) (rlRows rl) ∧ SlAt W 1 (.slice ba bl.length bc) (intRows bl) ∧ W.heap[w.heap.size]? = some (.cells #[.string ⟨k1.toArray⟩, .string ⟨k2.toArray⟩, .string ⟨k3.toArray⟩, .int .i64 k4, .int .i64 k5, .slice ra rl.length rc] 41 (0, 0)) ∧ W.heap[w.heap.size + 1]? = some (.cells #[.int .i64 q1, .bool q2, .bool q3, .string ⟨q4.toArray⟩, .string ⟨q5.toArray⟩, .int .i64 q6, .int .i64 q7, .slice ba bl.length bc] 47 (0, 0)) ∧ W.heap[w.heap.size + 1 + 1]? = some (.cells #[.int .i64 u1, .string ⟨u2.toArray⟩, .string ⟨u3.toArray⟩, .string ⟨u4.toArray⟩, .string ⟨u5.toArray⟩, .int .i64 u6, .slice none 0 0] 52 (0, 0)) ∧ W.heap[w.heap.size + 1 + 1 + 1]? = some (.cells #[.int .i64 p1, .int .i64 p2, .int .i64 p3, .string ⟨p4.toArray⟩, .int .i64 p5] 56 (0, 0)) ∧ SlAt W 6 (.slice xa xl.length xc) (rlRows xl) ∧ W.heap[g5]? = some (.cells #[.string ⟨x1.toArray⟩, .string ⟨x2.toArray⟩, .string ⟨x3.toArray⟩, .int .i64 x4, .int .i64 x5, .slice xa xl.length xc] 41 (0, 0)) ∧ SlAt W 1 (.slice ya yl.length yc) (intRows yl) ∧ W.heap[g6]? = some (.cells #[.int .i64 y1, .bool y2, .bool y3, .string ⟨y4.toArray⟩, .string ⟨y5.toArray⟩, .int .i64 y6, .int .i64 y7, .slice ya yl.length yc] 47 (0, 0)) ∧ W.heap[g7]? = some (.cells #[.int .i64 z1, .string ⟨z2.toArray⟩, .string ⟨z3.toArray⟩, .string ⟨z4.toArray⟩, .string ⟨z5.toArray⟩, .int .i64 z6, .slice none 0 0] 52 (0, 0)) ∧ W.heap[g8]? = some (.cells #[.int .i64 s1, .int .i64 s2, .int .i64 s3, .string ⟨s4.toArray⟩, .int .i64 s5] 56 (0, 0))) wx)
  case first =>
    rcases EV.out with rfl | ⟨rfl, rfl, hx⟩
    · go_wp2_with fail
      go_meet
      case rel => exact ⟨rfl, B0.out, S1.out, S2.out, X1.out, X2.out, X3.out, X4.out, S5.out, X5.out, S6.out, X6.out, X7.out, X8.out⟩
    · cases hx
      go_wp2_with (first
        | (refine wpList_wanted (by kernel_rfl) (wp_load_row 47 _ (by rfl) (g6) (by rfl) 47 _ (0, 0) _ (by exact X6.out) Tryz.underlying47 rfl (by kernel_rfl) ?_))
        | (refine wpList_wanted (by kernel_rfl) (wp_load_row 47 _ (by rfl) (w.heap.size + 1) (by rfl) 47 _ (0, 0) _ (by exact X2.out) Tryz.underlying47 rfl (by kernel_rfl) ?_)))
      refine Calls.mono (sameVer_any ⟨_, _, _, _, _, _, _, _⟩ _ _ _ S6.out S2.out) ?_
      rintro e wy ⟨rfl, hb⟩
      have B0 := Lib.hid (B0.out.trans (hb.mono B0.out.size))
      have S1 := Lib.hid (S1.out.later hb)
      have S2 := Lib.hid (S2.out.later hb)
      have X1 := Lib.hid ((hb.block _ (Array.getElem?_eq_some_iff.1 X1.out).1).trans X1.out)
      have X2 := Lib.hid ((hb.block _ (Array.getElem?_eq_some_iff.1 X2.out).1).trans X2.out)
      have X3 := Lib.hid ((hb.block _ (Array.getElem?_eq_some_iff.1 X3.out).1).trans X3.out)
      have X4 := Lib.hid ((hb.block _ (Array.getElem?_eq_some_iff.1 X4.out).1).trans X4.out)
      have S5 := Lib.hid (S5.out.later hb)
      have X5 := Lib.hid ((hb.block _ (Array.getElem?_eq_some_iff.1 X5.out).1).trans X5.out)
      have S6 := Lib.hid (S6.out.later hb)
      have X6 := Lib.hid ((hb.block _ (Array.getElem?_eq_some_iff.1 X6.out).1).trans X6.out)
      have X7 := Lib.hid ((hb.block _ (Array.getElem?_eq_some_iff.1 X7.out).1).trans X7.out)
      have X8 := Lib.hid ((hb.block _ (Array.getElem?_eq_some_iff.1 X8.out).1).trans X8.out)
      clear hb
      go_wp2_with fail
      go_meet
      case rel => exact ⟨rfl, B0.out, S1.out, S2.out, X1.out, X2.out, X3.out, X4.out, S5.out, X5.out, S6.out, X6.out, X7.out, X8.out⟩
  case rest =>
  obtain ⟨rfl, B0, kS1, kS2, kX1, kX2, kX3, kX4, kS5, kX5, kS6, kX6, kX7, kX8⟩ := hcut
  obtain ⟨y12, rfl⟩ : ∃ wx : World, wx = wc := ⟨_, rfl⟩
  have B0 := Lib.hid B0
  clear S1 S2 X1 X2 X3 X4 S5 X5 S6 X6 X7 X8
  have S1 := Lib.hid kS1
  have S2 := Lib.hid kS2
  have X1 := Lib.hid kX1
  have X2 := Lib.hid kX2
  have X3 := Lib.hid kX3
  have X4 := Lib.hid kX4
  have S5 := Lib.hid kS5
  have X5 := Lib.hid kX5
  have S6 := Lib.hid kS6
  have X6 := Lib.hid kX6
  have X7 := Lib.hid kX7
  have X8 := Lib.hid kX8
  clear kS1 kS2 kX1 kX2 kX3 kX4 kS5 kX5 kS6 kX6 kX7 kX8
  go_upto_region 13 with (fail)
  go_cut [28] (fun sx wx => sx = .bool true ∧ (fun W : World => Below w.heap.size w W ∧ SlAt W 6 (.slice ra rl.length rc) (rlRows rl) ∧ SlAt W 1 (.slice ba bl.length bc) (intRows bl) ∧ W.heap[w.heap.size]? = some (.cells #[.string ⟨k1.toArray⟩, .string ⟨k2.toArray⟩, .string ⟨k3.toArray⟩, .int .i64 k4, .int .i64 k5, .slice ra rl.length rc] 41 (0, 0)) ∧ W.heap[w.heap.size + 1]? = some (.cells #[.int .i64 q1, .bool q2, .bool q3, .string ⟨q4.toArray⟩, .string ⟨q5.toArray⟩, .int .i64 q6, .int .i64 q7, .slice ba bl.length bc] 47 (0, 0)) ∧ W.heap[w.heap.size + 1 + 1]? = some (.cells #[.int .i64 u1, .string ⟨u2.toArray⟩, .string ⟨u3.toArray⟩, .string ⟨u4.toArray⟩, .string ⟨u5.toArray⟩, .int .i64 u6, .slice none 0 0] 52 (0, 0)) ∧ W.heap[w.heap.size + 1 + 1 + 1]? = some (.cells #[.int .i64 p1, .int .i64 p2, .int .i64 p3, .string ⟨p4.toArray⟩, .int .i64 p5] 56 (0, 0)) ∧ SlAt W 6 (.slice xa xl.length xc) (rlRows xl) ∧ W.heap[g5]? = some (.cells #[.string ⟨x1.toArray⟩, .string ⟨x2.toArray⟩, .string ⟨x3.toArray⟩, .int .i64 x4, .int .i64 x5, .slice xa xl.length xc] 41 (0, 0)) ∧ SlAt W 1 (.slice ya yl.length yc) (intRows yl) ∧ W.heap[g6]? = some (.cells #[.int .i64 y1, .bool y2, .bool y3, .string ⟨y4.toArray⟩, .string ⟨y5.toArray⟩, .int .i64 y6, .int .i64 y7, .slice ya yl.length yc] 47 (0, 0)) ∧ W.heap[g7]? = some (.cells #[.int .i64 z1, .string ⟨z2.toArray⟩, .string ⟨z3.toArray⟩, .string ⟨z4.toArray⟩, .string ⟨z5.toArray⟩, .int .i64 z6, .slice none 0 0] 52 (0, 0)) ∧ W.heap[g8]? = some (.cells #[.int .i64 s1, .int .i64 s2, .int .i64 s3, .string ⟨s4.toArray⟩, .int .i64 s5] 56 (0, 0))) wx)
  case first =>
    rcases EU.out with rfl | ⟨rfl, rfl, hx⟩
    · go_wp2_with fail
      go_meet
      case rel => exact ⟨rfl, B0.out, S1.out, S2.out, X1.out, X2.out, X3.out, X4.out, S5.out, X5.out, S6.out, X6.out, X7.out, X8.out⟩
    · cases hx
      go_wp2_with (first
        | (refine wpList_wanted (by kernel_rfl) (wp_load_row 52 _ (by rfl) (g7) (by rfl) 52 _ (0, 0) _ (by exact X7.out) Tryz.underlying52 rfl (by kernel_rfl) ?_))
        | (refine wpList_wanted (by kernel_rfl) (wp_load_row 52 _ (by rfl) (w.heap.size + 1 + 1) (by rfl) 52 _ (0, 0) _ (by exact X3.out) Tryz.underlying52 rfl (by kernel_rfl) ?_)))
      refine Calls.mono (sameUp_any ⟨_, _, _, _, _, _⟩ _) ?_
      rintro e wy ⟨rfl, hb⟩
      have B0 := Lib.hid (B0.out.trans (hb.mono B0.out.size))
      have S1 := Lib.hid (S1.out.later hb)
      have S2 := Lib.hid (S2.out.later hb)
      have X1 := Lib.hid ((hb.block _ (Array.getElem?_eq_some_iff.1 X1.out).1).trans X1.out)
      have X2 := Lib.hid ((hb.block _ (Array.getElem?_eq_some_iff.1 X2.out).1).trans X2.out)
      have X3 := Lib.hid ((hb.block _ (Array.getElem?_eq_some_iff.1 X3.out).1).trans X3.out)
      have X4 := Lib.hid ((hb.block _ (Array.getElem?_eq_some_iff.1 X4.out).1).trans X4.out)
      have S5 := Lib.hid (S5.out.later hb)
      have X5 := Lib.hid ((hb.block _ (Array.getElem?_eq_some_iff.1 X5.out).1).trans X5.out)
      have S6 := Lib.hid (S6.out.later hb)
      have X6 := Lib.hid ((hb.block _ (Array.getElem?_eq_some_iff.1 X6.out).1).trans X6.out)
      have X7 := Lib.hid ((hb.block _ (Array.getElem?_eq_some_iff.1 X7.out).1).trans X7.out)
      have X8 := Lib.hid ((hb.block _ (Array.getElem?_eq_some_iff.1 X8.out).1).trans X8.out)
      clear hb
      go_wp2_with fail
      go_meet
      case rel => exact ⟨rfl, B0.out, S1.out, S2.out, X1.out, X2.out, X3.out, X4.out, S5.out, X5.out, S6.out, X6.out, X7.out, X8.out⟩
  case rest =>
  obtain ⟨rfl, B0, kS1, kS2, kX1, kX2, kX3, kX4, kS5, kX5, kS6, kX6, kX7, kX8⟩ := hcut
  obtain ⟨y13, rfl⟩ : ∃ wx : World, wx = wc := ⟨_, rfl⟩
  have B0 := Lib.hid B0
  clear S1 S2 X1 X2 X3 X4 S5 X5 S6 X6 X7 X8
  have S1 := Lib.hid kS1
  have S2 := Lib.hid kS2
  have X1 := Lib.hid kX1
  have X2 := Lib.hid kX2
  have X3 := Lib.hid kX3
  have X4 := Lib.hid kX4
  have S5 := Lib.hid kS5
  have X5 := Lib.hid kX5
  have S6 := Lib.hid kS6
  have X6 := Lib.hid kX6
  have X7 := Lib.hid kX7
  have X8 := Lib.hid kX8
  clear kS1 kS2 kX1 kX2 kX3 kX4 kS5 kX5 kS6 kX6 kX7 kX8
  go_upto_region 14 with (fail)
  go_cut [29] (fun sx wx => sx = .bool true ∧ (fun W : World => Below w.heap.size w W ∧ SlAt W 6 (.slice ra rl.length rc) (rlRows rl) ∧ SlAt W 1 (.slice ba bl.length bc) (intRows bl) ∧ W.heap[w.heap.size]? = some (.cells #[.string ⟨k1.toArray⟩, .string ⟨k2.toArray⟩, .string ⟨k3.toArray⟩, .int .i64 k4, .int .i64 k5, .slice ra rl.length rc] 41 (0, 0)) ∧ W.heap[w.heap.size + 1]? = some (.cells #[.int .i64 q1, .bool q2, .bool q3, .string ⟨q4.toArray⟩, .string ⟨q5.toArray⟩, .int .i64 q6, .int .i64 q7, .slice ba bl.length bc] 47 (0, 0)) ∧ W.heap[w.heap.size + 1 + 1]? = some (.cells #[.int .i64 u1, .string ⟨u2.toArray⟩, .string ⟨u3.toArray⟩, .string ⟨u4.toArray⟩, .string ⟨u5.toArray⟩, .int .i64 u6, .slice none 0 0] 52 (0, 0)) ∧ W.heap[w.heap.size + 1 + 1 + 1]? = some (.cells #[.int .i64 p1, .int .i64 p2, .int .i64 p3, .string ⟨p4.toArray⟩, .int .i64 p5] 56 (0, 0)) ∧ SlAt W 6 (.slice xa xl.length xc) (rlRows xl) ∧ W.heap[g5]? = some (.cells #[.string ⟨x1.toArray⟩, .string ⟨x2.toArray⟩, .string ⟨x3.toArray⟩, .int .i64 x4, .int .i64 x5, .slice xa xl.length xc] 41 (0, 0)) ∧ SlAt W 1 (.slice ya yl.length yc) (intRows yl) ∧ W.heap[g6]? = some (.cells #[.int .i64 y1, .bool y2, .bool y3, .string ⟨y4.toArray⟩, .string ⟨y5.toArray⟩, .int .i64 y6, .int .i64 y7, .slice ya yl.length yc] 47 (0, 0)) ∧ W.heap[g7]? = some (.cells #[.int .i64 z1, .string ⟨z2.toArray⟩, .string ⟨z3.toArray⟩, .string ⟨z4.toArray⟩, .string ⟨z5.toArray⟩, .int .i64 z6, .slice none 0 0] 52 (0, 0)) ∧ W.heap[g8]? = some (.cells #[.int .i64 s1, .int .i64 s2, .int .i64 s3, .string ⟨s4.toArray⟩, .int .i64 s5] 56 (0, 0))) wx)
  case first =>
    rcases EP.out with rfl | ⟨rfl, rfl, hx⟩
    · go_wp2_with fail
      go_meet
      case rel => exact ⟨rfl, B0.out, S1.out, S2.out, X1.out, X2.out, X3.out, X4.out, S5.out, X5.out, S6.out, X6.out, X7.out, X8.out⟩
    · cases hx
      first | have ceq := eql_part ⟨p1, p2, p3, p4, p5⟩ y13 | have ceq := eql_part ⟨s1, s2, s3, s4, s5⟩ y13
      simp only [PartV.cells] at ceq
      go_wp2_with (first
        | (refine wpList_wanted (by kernel_rfl) (wp_load_row 56 _ (by rfl) (g8) (by rfl) 56 _ (0, 0) _ (by exact X8.out) Tryz.underlying56 rfl (by kernel_rfl) ?_))
        | (refine wpList_wanted (by kernel_rfl) (wp_load_row 56 _ (by rfl) (w.heap.size + 1 + 1 + 1) (by rfl) 56 _ (0, 0) _ (by exact X4.out) Tryz.underlying56 rfl (by kernel_rfl) ?_)))
      go_meet
      case rel => exact ⟨rfl, B0.out, S1.out, S2.out, X1.out, X2.out, X3.out, X4.out, S5.out, X5.out, S6.out, X6.out, X7.out, X8.out⟩
  case rest =>
  obtain ⟨rfl, B0, kS1, kS2, kX1, kX2, kX3, kX4, kS5, kX5, kS6, kX6, kX7, kX8⟩ := hcut
  obtain ⟨y14, rfl⟩ : ∃ wx : World, wx = wc := ⟨_, rfl⟩
  have B0 := Lib.hid B0
  clear S1 S2 X1 X2 X3 X4 S5 X5 S6 X6 X7 X8
  have S1 := Lib.hid kS1
  have S2 := Lib.hid kS2
  have X1 := Lib.hid kX1
  have X2 := Lib.hid kX2
  have X3 := Lib.hid kX3
  have X4 := Lib.hid kX4
  have S5 := Lib.hid kS5
  have X5 := Lib.hid kX5
  have S6 := Lib.hid kS6
  have X6 := Lib.hid kX6
  have X7 := Lib.hid kX7
  have X8 := Lib.hid kX8
  clear kS1 kS2 kX1 kX2 kX3 kX4 kS5 kX5 kS6 kX6 kX7 kX8
  have l1 := LB.out
  have l2 := LV.out
  have l3 := LU.out
  have l4 := LP.out
  go_wp2
  go_ret
  exact ⟨rfl, B0.out⟩

end Go.Proofs.YtajmkkjlhmeolaaGreatDoor
