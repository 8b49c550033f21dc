/-
  The law WireBack: the walk.
-/
import Derived.Test.YtdilmefeofdkmaaGreatDoorSm40
import Derived.BigQuiet
import Derived.Deep.QuietTactic
namespace Go.Proofs.YtdilmefeofdkmaaGreatDoor
open Go.RowKit

theorem flatten_get {sz : Nat} : ∀ {rows : List (List Value)} {i j : Nat} {r : List Value} {u : Value}, (∀ r ∈ rows, r.length = sz) → rows[i]? = some r → r[j]? = some u → rows.flatten[i * sz + j]? = some u
  | [], i, j, r, u, _, h, _ => by simp at h
  | r0 :: rows, 0, j, r, u, hs, h, hu => by
    simp only [List.getElem?_cons_zero, Option.some.injEq] at h
    subst h
    have hj := (List.getElem?_eq_some_iff.1 hu).1
    simp only [List.flatten_cons, Nat.zero_mul, Nat.zero_add]
    rw [List.getElem?_append_left hj]
    exact hu
  | r0 :: rows, i + 1, j, r, u, hs, h, hu => by
    have h0 := hs r0 (by simp)
    simp only [List.getElem?_cons_succ] at h
    have := flatten_get (fun r hr => hs r (by simp [hr])) h hu
    simp only [List.flatten_cons]
    rw [List.getElem?_append_right (by rw [h0, Nat.add_mul]; omega), h0, show (i + 1) * sz + j - sz = i * sz + j from by rw [Nat.add_mul]; omega]
    exact this
theorem own_slAt {w : World} {base : Nat} {e : TypeId} {sz : Nat} {v : Value} {rows : List (List Value)} (h : w.ownsRow base e sz v rows.length rows.flatten) (hs : ∀ r ∈ rows, r.length = sz) (hl : rows.length ≤ 140737488351232) : SlAt w sz v rows := by
  rcases h.2 with ⟨rfl, h0⟩ | ⟨g, cap, cur, rfl, hb, hg, hn, hm, hcs, ht⟩
  · obtain rfl := List.eq_nil_of_length_eq_zero h0
    exact ⟨none, 0, rfl, hl, fun i r hr => by simp at hr⟩
  · refine ⟨_, cap, rfl, hl, fun i r hr => ⟨g, 0, rfl, fun j u hu => ?_⟩⟩
    have hf := flatten_get hs hr hu
    rw [← ht] at hf
    have hlt := (List.getElem?_eq_some_iff.1 hf).1
    rw [List.length_take] at hlt
    rw [List.getElem?_take, if_pos (by omega), Array.getElem?_toList] at hf
    rw [Nat.zero_add]
    simp only [World.cell?, hg]
    simpa using hf
theorem SlAt.laterB {w w' : World} {sz : Nat} {v : Value} {rows : List (List Value)} (h : SlAt w sz v rows) (hb : Below w.heap.size w w') : SlAt w' sz v rows := by
  obtain ⟨a, c, rfl, hl, h⟩ := h
  refine ⟨a, c, rfl, hl, fun i r hr => ?_⟩
  obtain ⟨b, off, rfl, hc⟩ := h i r hr
  exact ⟨b, off, rfl, fun j u hu => cell_later hb (hc j u hu)⟩

/-- a request's cells, its fields in this slice -/
def reqRow (p : ReqV × Value) : List Value := [.string ⟨p.1.meth.toArray⟩, .string ⟨p.1.target.toArray⟩, .int .i64 p.1.minor, p.2, .string ⟨p.1.body.toArray⟩, .bool p.1.close]
/-- requests that are read -/
structure ReqsIn (w : World) (v : Value) (ps : List (ReqV × Value)) : Prop where
  sl : SlAt w 6 v (ps.map reqRow)
  fs : ∀ p ∈ ps, PairsAt w p.2 p.1.fields
theorem ReqsIn.later {w w' : World} {v : Value} {ps : List (ReqV × Value)} (h : ReqsIn w v ps) (hb : Below w.heap.size w w') : ReqsIn w' v ps := ⟨h.sl.laterB hb, fun p hp => (h.fs p hp).later hb⟩
theorem ReqsIn.form {w : World} {v : Value} {ps : List (ReqV × Value)} (h : ReqsIn w v ps) : ∃ a c, v = .slice a ps.length c ∧ ps.length ≤ 140737488351232 := by
  obtain ⟨a, c, rfl, hl, _⟩ := h.sl
  rw [List.length_map] at hl ⊢
  exact ⟨a, c, rfl, hl⟩
theorem ReqsIn.at {w : World} {a : Option Addr} {n c : Nat} {ps : List (ReqV × Value)} (h : ReqsIn w (.slice a n c) ps) {i : Nat} {p : ReqV × Value} (hi : ps[i]? = some p) : ∃ b off, a = some ⟨b, off, none⟩ ∧ w.cell? ⟨b, off + i * 6, none⟩ = some (.string ⟨p.1.meth.toArray⟩) ∧ w.cell? ⟨b, off + i * 6 + 1, none⟩ = some (.string ⟨p.1.target.toArray⟩) ∧ w.cell? ⟨b, off + i * 6 + 2, none⟩ = some (.int .i64 p.1.minor) ∧ w.cell? ⟨b, off + i * 6 + 3, none⟩ = some p.2 ∧ w.cell? ⟨b, off + i * 6 + 4, none⟩ = some (.string ⟨p.1.body.toArray⟩) ∧ w.cell? ⟨b, off + i * 6 + 5, none⟩ = some (.bool p.1.close) ∧ PairsAt w p.2 p.1.fields := by
  obtain ⟨a', c', he, _, hc⟩ := h.sl
  injection he with h1 _ _
  subst h1
  obtain ⟨b, off, rfl, hcc⟩ := hc i (reqRow p) (by rw [List.getElem?_map, hi]; rfl)
  exact ⟨b, off, rfl, hcc 0 _ rfl, hcc 1 _ rfl, hcc 2 _ rfl, hcc 3 _ rfl, hcc 4 _ rfl, hcc 5 _ rfl, h.fs p (List.mem_of_getElem? hi)⟩
/-- what is wanted: a list of one's own -/
structure WantAt (w1 wr : World) (v : Value) (ps : List (ReqV × Value)) : Prop where
  own : wr.ownsRow w1.heap.size 31 6 v ps.length (ps.map reqRow).flatten
  fs : ∀ p ∈ ps, PairsAt w1 p.2 p.1.fields
  bel : Below w1.heap.size w1 wr
theorem WantAt.later {w1 wr w' : World} {v : Value} {ps : List (ReqV × Value)} (h : WantAt w1 wr v ps) (hb : Below wr.heap.size wr w') : WantAt w1 w' v ps := ⟨rowB_later h.own hb, h.fs, h.bel.trans (hb.mono h.bel.size)⟩
theorem WantAt.reqs {w1 wr : World} {v : Value} {ps : List (ReqV × Value)} (h : WantAt w1 wr v ps) (hl : ps.length ≤ 140737488351232) : ReqsIn wr v ps :=
  ⟨own_slAt (by rw [List.length_map]; exact h.own) (fun r hr => by obtain ⟨p, _, rfl⟩ := List.mem_map.1 hr; rfl) (by rw [List.length_map]; exact hl), fun p hp => (h.fs p hp).later h.bel⟩
theorem WantAt.form {w1 wr : World} {v : Value} {ps : List (ReqV × Value)} (h : WantAt w1 wr v ps) : ∃ a c, v = .slice a ps.length c := rowB_form h.own
theorem WantAt.push {w1 wr w2 : World} {a : Option Addr} {c gn cap : Nat} {ps : List (ReqV × Value)} {p : ReqV × Value} {K : Nat → Prop} (h : WantAt w1 wr (.slice a ps.length c) ps) (hp : PairsAt w1 p.2 p.1.fields)
    (hown : w2.ownsRow w1.heap.size 31 6 (.slice (some ⟨gn, 0, none⟩) (ps.length + 1) cap) (ps.length + 1) ((ps.map reqRow).flatten ++ reqRow p)) (hc : Chg wr w2 K) (hK : ∀ b, K b → w1.heap.size ≤ b) :
    WantAt w1 w2 (.slice (some ⟨gn, 0, none⟩) (ps.length + 1) cap) (ps ++ [p]) := by
  refine ⟨?_, fun q hq => ?_, h.bel.trans (hc.below h.bel.size hK)⟩
  · rw [List.length_append]
    simpa using hown
  · rcases List.mem_append.1 hq with hq | hq
    · exact h.fs q hq
    · rw [List.mem_singleton.1 hq]; exact hp

theorem info_reqB : ∃ i, Tryz.prog.info? 31 = some i ∧ i.zero = some (.agg #[.string ⟨#[]⟩, .string ⟨#[]⟩, .int .i64 0, .slice none 0 0, .string ⟨#[]⟩, .bool false]) ∧ i.size = 6 ∧ i.bytes = 88 :=
  info_parts (show (Tryz.prog.info? 31).map (fun i => (i.zero, i.size, i.bytes)) = some (some (.agg #[.string ⟨#[]⟩, .string ⟨#[]⟩, .int .i64 0, .slice none 0 0, .string ⟨#[]⟩, .bool false]), 6, 88) by kernel_rfl)

set_option maxHeartbeats 16000000 in
set_option maxRecDepth 100000 in
theorem back_walk (ps : List (ReqV × Value)) (v : Value) (w : World) (hG : Glob w) (hS : ReqsIn w v ps) (hm : ∀ p ∈ ps, IntOK p.1.minor) (hl : (ps.map fun p => (askT p.1).length).sum ≤ 1000000000) (hpl : ps.length ≤ 100000000) :
    Calls Tryz.prog 7 #[v] w fun e w' => e = .returned (.bool true) ∧ Below w.heap.size w w' := by
  obtain ⟨i0, hi, hz0, hz1, hz2⟩ := info_reqB
  have HG : Hid (∀ W, Below w.heap.size w W → Glob W) := fun W hW => hG.later hW
  obtain ⟨a, c, rfl, _⟩ := hS.form
  have HS := Lib.hid hS
  have HM := Lib.hid hm
  have HL := Lib.hid hl
  have HX := Lib.hid (ex_walk w hG)
  clear hG hS hm hl
  go_enter Tryz.func7, Tryz.ntmps7
  go_wp2_with fail
  refine HX.out.mono ?_
  rintro e w1 ⟨rfl, b1⟩
  have B1 := Lib.hid b1
  clear b1 HX
  go_wp2
  go_loopg [4, 5, 6, 7, 8, 9] ps.length (fun gg s4 s5 s6 s7 _ _ wr => ∃ (i : Nat) (vw : Value), i ≤ ps.length ∧ ps.length - i ≤ gg ∧ s7 = .int .i64 i ∧ s4 = .string ⟨(backL (ps.take i)).1.toArray⟩ ∧ s5 = vw ∧ s6 = .bool (backL (ps.take i)).2.2 ∧ Hid (WantAt w1 wr vw (backL (ps.take i)).2.1))
  case atStart => exact ⟨0, _, Nat.zero_le _, by omega, rfl, rfl, rfl, rfl, World.ownsRow_nil _ _ _ _, (fun p hp => by cases hp), Below.refl _ _⟩
  case round =>
    obtain ⟨i, vw, hin, hg, rfl, rfl, hvw, rfl, WA⟩ := hrel
    obtain ⟨aw, cw, rfl⟩ := WA.out.form
    subst hvw
    obtain ⟨hbm1, hbm2, hbm3⟩ := back_mem (ps.take i)
    have hbl : (backL (ps.take i)).2.1.length ≤ i := by rw [List.length_take] at hbm2; omega
    have BW := Lib.hid (B1.out.trans (WA.out.bel.mono B1.out.size))
    by_cases hlt : i < ps.length
    · have hltz : (i : Int) < (ps.length : Int) := by omega
      obtain ⟨p, hip⟩ : ∃ p, ps[i]? = some p := ⟨_, List.getElem?_eq_getElem hlt⟩
      have hsum := sum_take (fun p : ReqV × Value => (askT p.1).length) ps hip
      have htl := HL.out
      have HTK := Lib.hid (backL_take ps hip)
      have hmem := List.mem_of_getElem? hip
      obtain ⟨b, off, rfl, k0, k1, k2, k3, k4, k5, kf⟩ := HS.out.at hip
      have PF : Hid (PairsAt w1 p.2 p.1.fields) := (HS.out.later B1.out).fs p hmem
      have e0 := cell_later BW.out k0
      have e1 := cell_later BW.out k1
      have e2 := cell_later BW.out k2
      have e3 := cell_later BW.out k3
      have e4 := cell_later BW.out k4
      have e5 := cell_later BW.out k5
      have K5 := Lib.hid k5
      have HASK := Lib.hid (ask_any p.1 p.2 wr (HG.out wr BW.out) (kf.later BW.out) (by omega) (HM.out p hmem))
      have hX4 : (backL (ps.take i)).1.length + (askT p.1).length ≤ 1000000000 := by omega
      generalize backL (ps.take i) = q at *
      obtain ⟨T, W, cl⟩ := q
      simp only at WA hX4 hbl HTK ⊢
      obtain ⟨r, vf⟩ := p
      simp only at e0 e1 e2 e3 e4 e5 HASK PF hX4 K5
      obtain ⟨ok, hok⟩ : ∃ x, askOK r = x := ⟨_, rfl⟩
      have HOK := Lib.hid hok
      unfold AskOut at HASK
      rw [hok] at HASK
      obtain ⟨av, cv, hvf, _⟩ := PF.out
      subst hvf
      clear k0 k1 k2 k3 k4 k5 kf hbm1 hbm2 hbm3 hip hmem hsum htl hlt hok
      go_wp2_with fail
      refine HASK.out.mono ?_
      rintro e w2 ⟨rfl, b2⟩
      have WB := Lib.hid (WA.out.later b2)
      have B2 := Lib.hid b2
      have e0 := cell_later B2.out e0
      have e1 := cell_later B2.out e1
      have e2 := cell_later B2.out e2
      have e3 := cell_later B2.out e3
      have e4 := cell_later B2.out e4
      have e5 := cell_later B2.out e5
      clear b2 HASK
      cases ok
      · have HT2 : Hid (backL (ps.take (i + 1)) = (T, W, cl)) := by show _ = _; rw [HTK.out]; unfold backStep; rw [HOK.out]; rfl
        simp only [Bool.false_eq_true, if_false]
        go_wp2_with fail
        go_roundg (ps.length - (i + 1))
        case measure => omega
        case rel => exact ⟨i + 1, _, by omega, by omega, by go_num, by rw [HT2.out], rfl, by rw [HT2.out], by rw [HT2.out]; exact WB⟩
      · simp only [if_true]
        generalize htx : askT r = X at *
        have HTX := Lib.hid htx
        clear htx
        have s1 : ¬ 9223372036854775807 < T.length + X.length := by omega
        cases cl
        · have HT2 : Hid (backL (ps.take (i + 1)) = (T ++ X, W ++ [(r, .slice av r.fields.length cv)], r.close)) := by show _ = _; rw [HTK.out]; unfold backStep; rw [HOK.out, HTX.out]; rfl
          have hsz := WB.out.bel.size
          go_wp2_with (at_builtin; refine wpList_append_lies _ rfl _ _ 24 rfl w1.heap.size 31 i0 _ 6 88 Tryz.underlying24 hi hz0 hz1 hz2 rfl (by decide) _ _ _ rfl (WB.out.own.alloc _) ⟨w2.heap.size, 0, none⟩ 1 1 (reqRow (r, .slice av r.fields.length cv)) rfl rfl (fun j u hj => cells_new _ _ _ _ _ (by simpa [reqRow] using hj)) (by simp [reqRow, Value.oneCell']) (by decide) (by simp only [maxLen]; omega) (by omega) (by simp; omega) _ rfl ?_)
          intro gn cap w5 hown hgr hat hlt5
          have W5 : Hid (WantAt w1 w5 (.slice (some ⟨gn, 0, none⟩) (W.length + 1) cap) (W ++ [(r, .slice av r.fields.length cv)])) := by
            refine WantAt.push (WB.out.later (below_alloc (Below.refl _ _) (Nat.le_refl _) _)) PF.out hown (Chg.grown hgr) fun k hk => ?_
            exact (WB.out.own.lt k hk.symm).1
          have e5 := cell_later (B1.out.trans (W5.out.bel.mono B1.out.size)) K5.out
          clear hown hgr hat hlt5
          go_wp2_with fail
          go_roundg (ps.length - (i + 1))
          case measure => omega
          case rel => exact ⟨i + 1, _, by omega, by omega, by go_num, by rw [HT2.out]; exact congrArg Value.string (str_app _ _), rfl, by rw [HT2.out], by rw [HT2.out]; exact W5⟩
        · have HT2 : Hid (backL (ps.take (i + 1)) = (T ++ X, W, true)) := by show _ = _; rw [HTK.out]; unfold backStep; rw [HOK.out, HTX.out]; rfl
          go_wp2_with fail
          go_roundg (ps.length - (i + 1))
          case measure => omega
          case rel => exact ⟨i + 1, _, by omega, by omega, by go_num, by rw [HT2.out]; exact congrArg Value.string (str_app _ _), rfl, by rw [HT2.out], by rw [HT2.out]; exact WB⟩
    · have he : i = ps.length := by omega
      subst he
      rw [List.take_length]
      rw [List.take_length] at WA hbm1 hbm2 hbm3 hbl
      have HBO := Lib.hid (back_ok ps)
      have HBH := Lib.hid (back_ok ps).held
      have HQF : Hid (∀ x ∈ (backL ps).2.1, (fullV x.1).fields.length ≤ 50) := fun x hx => feed_flds (backL ps).1 rsZ 0 rsZ_wf (fullV x.1) (by rw [HBO.out.out]; exact List.mem_map.2 ⟨x, hx, rfl⟩)
      have htl := HL.out
      obtain ⟨w2, rfl⟩ : ∃ wx : World, wx = wr := ⟨_, rfl⟩
      have hTl : (backL ps).1.length ≤ 1000000000 := by omega
      generalize backL ps = q at *
      obtain ⟨T, W, cl⟩ := q
      simp only at WA hbl hTl HBO HBH HQF ⊢
      have HALL : Hid (Calls Tryz.prog 11 #[.slice (some ⟨w2.heap.size, 0, none⟩) 1 1] (w2.alloc (.cells #[.string ⟨T.toArray⟩] 9)) fun e w' => ∃ v K, e = .returned (.tuple #[v, .int .i64 0, .int .i64 0]) ∧ ReqsAt w' v (W.map fun x => fullV x.1) K ∧ Below w2.heap.size w2 w') := by
        have hb := below_alloc (Below.refl w2.heap.size w2) (Nat.le_refl _) (.cells #[.string ⟨T.toArray⟩] 9)
        refine (all_law [T] (.slice (some ⟨w2.heap.size, 0, none⟩) 1 1) (w2.alloc (.cells #[.string ⟨T.toArray⟩] 9)) (HG.out _ (BW.out.trans (hb.mono BW.out.size))) ⟨some ⟨w2.heap.size, 0, none⟩, 1, rfl, by simp [strRows], fun i r hr => ?_⟩ (by simp; omega) (by simp)).mono ?_
        · rcases i with _ | i
          · simp [strRows] at hr
            subst hr
            refine ⟨w2.heap.size, 0, rfl, fun j u hu => ?_⟩
            rcases j with _ | j
            · simp at hu
              subst hu
              exact cell_new _ _ _ _ _ _ rfl rfl
            · simp at hu
          · simp [strRows] at hr
        · rintro e w' ⟨v, K, h1, h2, _, h4⟩
          have e1 : [T].flatten = T := by simp
          rw [e1] at h1 h2
          have e2 := HBO.out.out
          have e3 := HBO.out.fault
          have e4 := HBH.out
          simp only at e2 e3 e4
          rw [e3, e4] at h1
          rw [e2] at h2
          exact ⟨v, K, h1, h2, hb.trans (h4.mono hb.size)⟩
      clear hbm1 hbm2 hbm3 htl HBO HBH hin hg hlt
      go_wp2_with fail
      refine HALL.out.mono ?_
      rintro e w3 ⟨v3, K3, rfl, q3, b3⟩
      obtain ⟨a3, c3, rfl⟩ := q3.form
      have WB := Lib.hid (WA.out.later b3)
      have Q3 := Lib.hid q3
      have B3 := Lib.hid (BW.out.trans (b3.mono BW.out.size))
      have n1 : ((W.length : Int) != (W.length : Int)) = false := by simp
      have n2 : ((W.length : Int) == (W.length : Int)) = true := by simp
      rw [List.length_map]
      clear q3 b3 HALL WA
      go_upto_region 17 with (fail)
      go_wp2
      go_loopg [13, 14, 15] W.length (fun gg s13 _ _ wr => ∃ i : Nat, i ≤ W.length ∧ W.length - i ≤ gg ∧ s13 = .int .i64 i ∧ Hid (Below w3.heap.size w3 wr))
      case atStart => exact ⟨0, Nat.zero_le _, by omega, rfl, Below.refl _ _⟩
      case round =>
        obtain ⟨i, hin, hg, rfl, BR⟩ := hrel
        obtain ⟨wo, rfl⟩ : ∃ wx : World, wx = wr := ⟨_, rfl⟩
        by_cases hlt : i < W.length
        · have hltz : (i : Int) < (W.length : Int) := by omega
          obtain ⟨p, hip⟩ : ∃ p, W[i]? = some p := ⟨_, List.getElem?_eq_getElem hlt⟩
          have RW := (WB.out.later BR.out).reqs (by omega)
          obtain ⟨b, off, rfl, k0, k1, k2, k3, k4, k5, kf⟩ := RW.at hip
          obtain ⟨ga, ca', vfa, hva, x0, x1, x2, x3, x4, x5, xo, _⟩ := (Q3.out.later BR.out).at (i := i) (q := fullV p.1) (by rw [List.getElem?_map, hip]; rfl)
          injection hva with hva _ ea
          subst hva ea
          have hqf := HQF.out p (List.mem_of_getElem? hip)
          have PX := Lib.hid (pairs_own xo (by omega))
          obtain ⟨r, vf⟩ := p
          obtain ⟨av, cv, hvf, _⟩ := kf
          simp only at k0 k1 k2 k3 k4 k5 x0 x1 x2 x3 x4 x5 hqf PX hvf
          subst hvf
          obtain ⟨ax, cx, hvx, _⟩ := PX.out
          subst hvx
          have KF : Hid (PairsAt wo (.slice av r.fields.length cv) r.fields) := (RW.fs _ (List.mem_of_getElem? hip))
          have x0 : wo.cell? ⟨ga, i * 6, none⟩ = some (.string ⟨r.meth.toArray⟩) := x0
          have x1 : wo.cell? ⟨ga, i * 6 + 1, none⟩ = some (.string ⟨r.target.toArray⟩) := x1
          have x2 : wo.cell? ⟨ga, i * 6 + 2, none⟩ = some (.int .i64 r.minor) := x2
          have x4 : wo.cell? ⟨ga, i * 6 + 4, none⟩ = some (.string ⟨r.body.toArray⟩) := x4
          have x5 : wo.cell? ⟨ga, i * 6 + 5, none⟩ = some (.bool r.close) := x5
          have HF : Hid (∀ (k : Nat) f, r.fields[k]? = some f → (fullV r).fields[k]? = some f) := fun k f hk => by
            have hlt := (List.getElem?_eq_some_iff.1 hk).1
            unfold fullV
            simp only
            rw [List.append_assoc, List.getElem?_append_left hlt]
            exact hk
          have hle : r.fields.length ≤ (fullV r).fields.length := by
            unfold fullV
            simp only [List.length_append]
            omega
          generalize (fullV r).fields = F at *
          have hlez : (r.fields.length : Int) ≤ (F.length : Int) := by omega
          have m0 : decide ((F.length : Int) < (r.fields.length : Int)) = false := decide_eq_false (by omega)
          have m0b : decide (F.length < r.fields.length) = false := decide_eq_false (by omega)
          have m0c : ¬ F.length < r.fields.length := by omega
          have m1 : (r.meth != r.meth) = false := by simp
          have m2 : (r.target != r.target) = false := by simp
          have m3 : (r.minor != r.minor) = false := by simp
          have m4 : (r.body != r.body) = false := by simp
          have m5 : (r.close != r.close) = false := by simp
          clear hip xo RW
          have X0 := Lib.hid x0
          have X1 := Lib.hid x1
          have X2 := Lib.hid x2
          have X3 := Lib.hid x3
          have X4 := Lib.hid x4
          have X5 := Lib.hid x5
          have K0 := Lib.hid k0
          have K1 := Lib.hid k1
          have K2 := Lib.hid k2
          have K3 := Lib.hid k3
          have K4 := Lib.hid k4
          have K5 := Lib.hid k5
          go_upto_region 21 with (fail)
          clear x0 x1 x2 x3 x4 x5 k0 k1 k2 k3 k4 k5
          refine wp_region_held_drew (S := (fun W : World => Below wo.heap.size wo W)) (by kernel_rfl) (Below.drew (Below.refl _ _)) (fun hS0 => ?_)
          refine wpAnyH_take (i := 0) (oi := { dst := some 85, op := _, type := _, pos := _, after := _, guard := _ }) (v := ?_) rfl (by kernel_rfl) (by kernel_rfl) (by kernel_rfl) (fun _ _ _ h => h) (Or.inl ⟨by kernel_rfl, ?_⟩) (by assumption) ?_
          rotate_left
          · (intro w hSw; (try dsimp only at hSw); go_simp); all_goals (with_reducible rfl)
          try simp only [Act.put, List.setIfInBounds_toArray, List.set_cons_zero, List.set_cons_succ]
          refine wpAnyH_take (i := 1) (oi := { dst := some 86, op := _, type := _, pos := _, after := _, guard := _ }) (v := ?_) rfl (by kernel_rfl) (by kernel_rfl) (by kernel_rfl) (fun _ _ _ h => h) (Or.inl ⟨by kernel_rfl, ?_⟩) (by assumption) ?_
          rotate_left
          · (intro w hSw; (try dsimp only at hSw); go_simp); all_goals (with_reducible rfl)
          try simp only [Act.put, List.setIfInBounds_toArray, List.set_cons_zero, List.set_cons_succ]
          refine wpAnyH_take (i := 2) (oi := { dst := some 87, op := _, type := _, pos := _, after := _, guard := _ }) (v := ?_) rfl (by kernel_rfl) (by kernel_rfl) (by kernel_rfl) (fun _ _ _ h => h) (Or.inl ⟨by kernel_rfl, ?_⟩) (by assumption) ?_
          rotate_left
          · (intro w hSw; (try dsimp only at hSw); go_simp); all_goals (with_reducible rfl)
          try simp only [Act.put, List.setIfInBounds_toArray, List.set_cons_zero, List.set_cons_succ]
          refine wpAnyH_take (i := 3) (oi := { dst := some 88, op := _, type := _, pos := _, after := _, guard := _ }) (v := ?_) rfl (by kernel_rfl) (by kernel_rfl) (by kernel_rfl) (fun _ _ _ h => h) (Or.inl ⟨by kernel_rfl, ?_⟩) (by assumption) ?_
          rotate_left
          · (intro w hSw; (try dsimp only at hSw); go_simp); all_goals (with_reducible rfl)
          try simp only [Act.put, List.setIfInBounds_toArray, List.set_cons_zero, List.set_cons_succ]
          refine wpAnyH_take (i := 4) (oi := { dst := some 89, op := _, type := _, pos := _, after := _, guard := _ }) (v := ?_) rfl (by kernel_rfl) (by kernel_rfl) (by kernel_rfl) (fun _ _ _ h => h) (Or.inl ⟨by kernel_rfl, ?_⟩) (by assumption) ?_
          rotate_left
          · (intro w hSw; (try dsimp only at hSw); (have z0 := cell_later hSw X0.out); (have z1 := cell_later hSw X1.out); (have z2 := cell_later hSw X2.out); (have z3 := cell_later hSw X3.out); (have z4 := cell_later hSw X4.out); (have z5 := cell_later hSw X5.out); (have z6 := cell_later hSw K0.out); (have z7 := cell_later hSw K1.out); (have z8 := cell_later hSw K2.out); (have z9 := cell_later hSw K3.out); (have z10 := cell_later hSw K4.out); (have z11 := cell_later hSw K5.out); go_simp); all_goals (with_reducible rfl)
          try simp only [Act.put, List.setIfInBounds_toArray, List.set_cons_zero, List.set_cons_succ]
          refine wpAnyH_take (i := 5) (oi := { dst := some 90, op := _, type := _, pos := _, after := _, guard := _ }) (v := ?_) rfl (by kernel_rfl) (by kernel_rfl) (by kernel_rfl) (fun _ _ _ h => h) (Or.inl ⟨by kernel_rfl, ?_⟩) (by assumption) ?_
          rotate_left
          · (intro w hSw; (try dsimp only at hSw); go_simp); all_goals (with_reducible rfl)
          try simp only [Act.put, List.setIfInBounds_toArray, List.set_cons_zero, List.set_cons_succ]
          refine wpAnyH_take (i := 6) (oi := { dst := some 91, op := _, type := _, pos := _, after := _, guard := _ }) (v := ?_) rfl (by kernel_rfl) (by kernel_rfl) (by kernel_rfl) (fun _ _ _ h => h) (Or.inl ⟨by kernel_rfl, ?_⟩) (by assumption) ?_
          rotate_left
          · (intro w hSw; (try dsimp only at hSw); go_simp); all_goals (with_reducible rfl)
          try simp only [Act.put, List.setIfInBounds_toArray, List.set_cons_zero, List.set_cons_succ]
          refine wpAnyH_take (i := 7) (oi := { dst := some 92, op := _, type := _, pos := _, after := _, guard := _ }) (v := ?_) rfl (by kernel_rfl) (by kernel_rfl) (by kernel_rfl) (fun _ _ _ h => h) (Or.inl ⟨by kernel_rfl, ?_⟩) (by assumption) ?_
          rotate_left
          · (intro w hSw; (try dsimp only at hSw); go_simp); all_goals (with_reducible rfl)
          try simp only [Act.put, List.setIfInBounds_toArray, List.set_cons_zero, List.set_cons_succ]
          refine wpAnyH_take (i := 8) (oi := { dst := some 93, op := _, type := _, pos := _, after := _, guard := _ }) (v := ?_) rfl (by kernel_rfl) (by kernel_rfl) (by kernel_rfl) (fun _ _ _ h => h) (Or.inl ⟨by kernel_rfl, ?_⟩) (by assumption) ?_
          rotate_left
          · (intro w hSw; (try dsimp only at hSw); go_simp); all_goals (with_reducible rfl)
          try simp only [Act.put, List.setIfInBounds_toArray, List.set_cons_zero, List.set_cons_succ]
          refine wpAnyH_take (i := 9) (oi := { dst := some 94, op := _, type := _, pos := _, after := _, guard := _ }) (v := ?_) rfl (by kernel_rfl) (by kernel_rfl) (by kernel_rfl) (fun _ _ _ h => h) (Or.inl ⟨by kernel_rfl, ?_⟩) (by assumption) ?_
          rotate_left
          · (intro w hSw; (try dsimp only at hSw); go_simp); all_goals (with_reducible rfl)
          try simp only [Act.put, List.setIfInBounds_toArray, List.set_cons_zero, List.set_cons_succ]
          refine wpAnyH_take (i := 10) (oi := { dst := some 95, op := _, type := _, pos := _, after := _, guard := _ }) (v := ?_) rfl (by kernel_rfl) (by kernel_rfl) (by kernel_rfl) (fun _ _ _ h => h) (Or.inl ⟨by kernel_rfl, ?_⟩) (by assumption) ?_
          rotate_left
          · (intro w hSw; (try dsimp only at hSw); go_simp); all_goals (with_reducible rfl)
          try simp only [Act.put, List.setIfInBounds_toArray, List.set_cons_zero, List.set_cons_succ]
          refine wpAnyH_take (i := 11) (oi := { dst := some 96, op := _, type := _, pos := _, after := _, guard := _ }) (v := ?_) rfl (by kernel_rfl) (by kernel_rfl) (by kernel_rfl) (fun _ _ _ h => h) (Or.inl ⟨by kernel_rfl, ?_⟩) (by assumption) ?_
          rotate_left
          · (intro w hSw; (try dsimp only at hSw); go_simp); all_goals (with_reducible rfl)
          try simp only [Act.put, List.setIfInBounds_toArray, List.set_cons_zero, List.set_cons_succ]
          refine wpAnyH_take (i := 12) (oi := { dst := some 97, op := _, type := _, pos := _, after := _, guard := _ }) (v := ?_) rfl (by kernel_rfl) (by kernel_rfl) (by kernel_rfl) (fun _ _ _ h => h) (Or.inl ⟨by kernel_rfl, ?_⟩) (by assumption) ?_
          rotate_left
          · (intro w hSw; (try dsimp only at hSw); go_simp); all_goals (with_reducible rfl)
          try simp only [Act.put, List.setIfInBounds_toArray, List.set_cons_zero, List.set_cons_succ]
          refine wpAnyH_take (i := 13) (oi := { dst := some 98, op := _, type := _, pos := _, after := _, guard := _ }) (v := ?_) rfl (by kernel_rfl) (by kernel_rfl) (by kernel_rfl) (fun _ _ _ h => h) (Or.inl ⟨by kernel_rfl, ?_⟩) (by assumption) ?_
          rotate_left
          · (intro w hSw; (try dsimp only at hSw); (have z0 := cell_later hSw X0.out); (have z1 := cell_later hSw X1.out); (have z2 := cell_later hSw X2.out); (have z3 := cell_later hSw X3.out); (have z4 := cell_later hSw X4.out); (have z5 := cell_later hSw X5.out); (have z6 := cell_later hSw K0.out); (have z7 := cell_later hSw K1.out); (have z8 := cell_later hSw K2.out); (have z9 := cell_later hSw K3.out); (have z10 := cell_later hSw K4.out); (have z11 := cell_later hSw K5.out); go_simp); all_goals (with_reducible rfl)
          try simp only [Act.put, List.setIfInBounds_toArray, List.set_cons_zero, List.set_cons_succ]
          refine wpAnyH_take (i := 14) (oi := { dst := some 99, op := _, type := _, pos := _, after := _, guard := _ }) (v := ?_) rfl (by kernel_rfl) (by kernel_rfl) (by kernel_rfl) (fun _ _ _ h => h) (Or.inl ⟨by kernel_rfl, ?_⟩) (by assumption) ?_
          rotate_left
          · (intro w hSw; (try dsimp only at hSw); go_simp); all_goals (with_reducible rfl)
          try simp only [Act.put, List.setIfInBounds_toArray, List.set_cons_zero, List.set_cons_succ]
          refine wpAnyH_take (i := 15) (oi := { dst := some 100, op := _, type := _, pos := _, after := _, guard := _ }) (v := ?_) rfl (by kernel_rfl) (by kernel_rfl) (by kernel_rfl) (fun _ _ _ h => h) (Or.inl ⟨by kernel_rfl, ?_⟩) (by assumption) ?_
          rotate_left
          · (intro w hSw; (try dsimp only at hSw); go_simp); all_goals (with_reducible rfl)
          try simp only [Act.put, List.setIfInBounds_toArray, List.set_cons_zero, List.set_cons_succ]
          refine wpAnyH_take (i := 16) (oi := { dst := some 101, op := _, type := _, pos := _, after := _, guard := _ }) (v := ?_) rfl (by kernel_rfl) (by kernel_rfl) (by kernel_rfl) (fun _ _ _ h => h) (Or.inl ⟨by kernel_rfl, ?_⟩) (by assumption) ?_
          rotate_left
          · (intro w hSw; (try dsimp only at hSw); go_simp); all_goals (with_reducible rfl)
          try simp only [Act.put, List.setIfInBounds_toArray, List.set_cons_zero, List.set_cons_succ]
          refine wpAnyH_take (i := 17) (oi := { dst := some 102, op := _, type := _, pos := _, after := _, guard := _ }) (v := ?_) rfl (by kernel_rfl) (by kernel_rfl) (by kernel_rfl) (fun _ _ _ h => h) (Or.inl ⟨by kernel_rfl, ?_⟩) (by assumption) ?_
          rotate_left
          · (intro w hSw; (try dsimp only at hSw); go_simp); all_goals (with_reducible rfl)
          try simp only [Act.put, List.setIfInBounds_toArray, List.set_cons_zero, List.set_cons_succ]
          refine wpAnyH_take (i := 18) (oi := { dst := some 103, op := _, type := _, pos := _, after := _, guard := _ }) (v := ?_) rfl (by kernel_rfl) (by kernel_rfl) (by kernel_rfl) (fun _ _ _ h => h) (Or.inl ⟨by kernel_rfl, ?_⟩) (by assumption) ?_
          rotate_left
          · (intro w hSw; (try dsimp only at hSw); (have z0 := cell_later hSw X0.out); (have z1 := cell_later hSw X1.out); (have z2 := cell_later hSw X2.out); (have z3 := cell_later hSw X3.out); (have z4 := cell_later hSw X4.out); (have z5 := cell_later hSw X5.out); (have z6 := cell_later hSw K0.out); (have z7 := cell_later hSw K1.out); (have z8 := cell_later hSw K2.out); (have z9 := cell_later hSw K3.out); (have z10 := cell_later hSw K4.out); (have z11 := cell_later hSw K5.out); go_simp); all_goals (with_reducible rfl)
          try simp only [Act.put, List.setIfInBounds_toArray, List.set_cons_zero, List.set_cons_succ]
          refine wpAnyH_take (i := 19) (oi := { dst := some 104, op := _, type := _, pos := _, after := _, guard := _ }) (v := ?_) rfl (by kernel_rfl) (by kernel_rfl) (by kernel_rfl) (fun _ _ _ h => h) (Or.inl ⟨by kernel_rfl, ?_⟩) (by assumption) ?_
          rotate_left
          · (intro w hSw; (try dsimp only at hSw); go_simp); all_goals (with_reducible rfl)
          try simp only [Act.put, List.setIfInBounds_toArray, List.set_cons_zero, List.set_cons_succ]
          refine wpAnyH_take (i := 20) (oi := { dst := some 105, op := _, type := _, pos := _, after := _, guard := _ }) (v := ?_) rfl (by kernel_rfl) (by kernel_rfl) (by kernel_rfl) (fun _ _ _ h => h) (Or.inl ⟨by kernel_rfl, ?_⟩) (by assumption) ?_
          rotate_left
          · (intro w hSw; (try dsimp only at hSw); go_simp); all_goals (with_reducible rfl)
          try simp only [Act.put, List.setIfInBounds_toArray, List.set_cons_zero, List.set_cons_succ]
          refine wpAnyH_take (i := 21) (oi := { dst := some 106, op := _, type := _, pos := _, after := _, guard := _ }) (v := ?_) rfl (by kernel_rfl) (by kernel_rfl) (by kernel_rfl) (fun _ _ _ h => h) (Or.inl ⟨by kernel_rfl, ?_⟩) (by assumption) ?_
          rotate_left
          · (intro w hSw; (try dsimp only at hSw); go_simp); all_goals (with_reducible rfl)
          try simp only [Act.put, List.setIfInBounds_toArray, List.set_cons_zero, List.set_cons_succ]
          refine wpAnyH_take (i := 22) (oi := { dst := some 107, op := _, type := _, pos := _, after := _, guard := _ }) (v := ?_) rfl (by kernel_rfl) (by kernel_rfl) (by kernel_rfl) (fun _ _ _ h => h) (Or.inl ⟨by kernel_rfl, ?_⟩) (by assumption) ?_
          rotate_left
          · (intro w hSw; (try dsimp only at hSw); go_simp); all_goals (with_reducible rfl)
          try simp only [Act.put, List.setIfInBounds_toArray, List.set_cons_zero, List.set_cons_succ]
          refine wpAnyH_take (i := 23) (oi := { dst := some 108, op := _, type := _, pos := _, after := _, guard := _ }) (v := ?_) rfl (by kernel_rfl) (by kernel_rfl) (by kernel_rfl) (fun _ _ _ h => h) (Or.inl ⟨by kernel_rfl, ?_⟩) (by assumption) ?_
          rotate_left
          · (intro w hSw; (try dsimp only at hSw); go_simp); all_goals (with_reducible rfl)
          try simp only [Act.put, List.setIfInBounds_toArray, List.set_cons_zero, List.set_cons_succ]
          refine wpAnyH_take (i := 24) (oi := { dst := some 109, op := _, type := _, pos := _, after := _, guard := _ }) (v := ?_) rfl (by kernel_rfl) (by kernel_rfl) (by kernel_rfl) (fun _ _ _ h => h) (Or.inl ⟨by kernel_rfl, ?_⟩) (by assumption) ?_
          rotate_left
          · (intro w hSw; (try dsimp only at hSw); go_simp); all_goals (with_reducible rfl)
          try simp only [Act.put, List.setIfInBounds_toArray, List.set_cons_zero, List.set_cons_succ]
          refine wpAnyH_take (i := 25) (oi := { dst := some 110, op := _, type := _, pos := _, after := _, guard := _ }) (v := ?_) rfl (by kernel_rfl) (by kernel_rfl) (by kernel_rfl) (fun _ _ _ h => h) (Or.inl ⟨by kernel_rfl, ?_⟩) (by assumption) ?_
          rotate_left
          · (intro w hSw; (try dsimp only at hSw); go_simp); all_goals (with_reducible rfl)
          try simp only [Act.put, List.setIfInBounds_toArray, List.set_cons_zero, List.set_cons_succ]
          refine wpAnyH_take (i := 26) (oi := { dst := some 111, op := _, type := _, pos := _, after := _, guard := _ }) (v := ?_) rfl (by kernel_rfl) (by kernel_rfl) (by kernel_rfl) (fun _ _ _ h => h) (Or.inl ⟨by kernel_rfl, ?_⟩) (by assumption) ?_
          rotate_left
          · (intro w hSw; (try dsimp only at hSw); (have z0 := cell_later hSw X0.out); (have z1 := cell_later hSw X1.out); (have z2 := cell_later hSw X2.out); (have z3 := cell_later hSw X3.out); (have z4 := cell_later hSw X4.out); (have z5 := cell_later hSw X5.out); (have z6 := cell_later hSw K0.out); (have z7 := cell_later hSw K1.out); (have z8 := cell_later hSw K2.out); (have z9 := cell_later hSw K3.out); (have z10 := cell_later hSw K4.out); (have z11 := cell_later hSw K5.out); go_simp); all_goals (with_reducible rfl)
          try simp only [Act.put, List.setIfInBounds_toArray, List.set_cons_zero, List.set_cons_succ]
          refine wpAnyH_take (i := 27) (oi := { dst := some 112, op := _, type := _, pos := _, after := _, guard := _ }) (v := ?_) rfl (by kernel_rfl) (by kernel_rfl) (by kernel_rfl) (fun _ _ _ h => h) (Or.inl ⟨by kernel_rfl, ?_⟩) (by assumption) ?_
          rotate_left
          · (intro w hSw; (try dsimp only at hSw); go_simp); all_goals (with_reducible rfl)
          try simp only [Act.put, List.setIfInBounds_toArray, List.set_cons_zero, List.set_cons_succ]
          refine wpAnyH_take (i := 28) (oi := { dst := some 113, op := _, type := _, pos := _, after := _, guard := _ }) (v := ?_) rfl (by kernel_rfl) (by kernel_rfl) (by kernel_rfl) (fun _ _ _ h => h) (Or.inl ⟨by kernel_rfl, ?_⟩) (by assumption) ?_
          rotate_left
          · (intro w hSw; (try dsimp only at hSw); go_simp); all_goals (with_reducible rfl)
          try simp only [Act.put, List.setIfInBounds_toArray, List.set_cons_zero, List.set_cons_succ]
          refine wpAnyH_take (i := 29) (oi := { dst := some 114, op := _, type := _, pos := _, after := _, guard := _ }) (v := ?_) rfl (by kernel_rfl) (by kernel_rfl) (by kernel_rfl) (fun _ _ _ h => h) (Or.inl ⟨by kernel_rfl, ?_⟩) (by assumption) ?_
          rotate_left
          · (intro w hSw; (try dsimp only at hSw); go_simp); all_goals (with_reducible rfl)
          try simp only [Act.put, List.setIfInBounds_toArray, List.set_cons_zero, List.set_cons_succ]
          refine wpAnyH_take (i := 30) (oi := { dst := some 115, op := _, type := _, pos := _, after := _, guard := _ }) (v := ?_) rfl (by kernel_rfl) (by kernel_rfl) (by kernel_rfl) (fun _ _ _ h => h) (Or.inl ⟨by kernel_rfl, ?_⟩) (by assumption) ?_
          rotate_left
          · (intro w hSw; (try dsimp only at hSw); go_simp); all_goals (with_reducible rfl)
          try simp only [Act.put, List.setIfInBounds_toArray, List.set_cons_zero, List.set_cons_succ]
          refine wpAnyH_take (i := 31) (oi := { dst := some 116, op := _, type := _, pos := _, after := _, guard := _ }) (v := ?_) rfl (by kernel_rfl) (by kernel_rfl) (by kernel_rfl) (fun _ _ _ h => h) (Or.inl ⟨by kernel_rfl, ?_⟩) (by assumption) ?_
          rotate_left
          · (intro w hSw; (try dsimp only at hSw); (have z0 := cell_later hSw X0.out); (have z1 := cell_later hSw X1.out); (have z2 := cell_later hSw X2.out); (have z3 := cell_later hSw X3.out); (have z4 := cell_later hSw X4.out); (have z5 := cell_later hSw X5.out); (have z6 := cell_later hSw K0.out); (have z7 := cell_later hSw K1.out); (have z8 := cell_later hSw K2.out); (have z9 := cell_later hSw K3.out); (have z10 := cell_later hSw K4.out); (have z11 := cell_later hSw K5.out); go_simp); all_goals (with_reducible rfl)
          try simp only [Act.put, List.setIfInBounds_toArray, List.set_cons_zero, List.set_cons_succ]
          refine wpAnyH_take (i := 32) (oi := { dst := some 117, op := _, type := _, pos := _, after := _, guard := _ }) (v := ?_) rfl (by kernel_rfl) (by kernel_rfl) (by kernel_rfl) (fun _ _ _ h => h) (Or.inl ⟨by kernel_rfl, ?_⟩) (by assumption) ?_
          rotate_left
          · (intro w hSw; (try dsimp only at hSw); go_simp); all_goals (with_reducible rfl)
          try simp only [Act.put, List.setIfInBounds_toArray, List.set_cons_zero, List.set_cons_succ]
          refine wpAnyH_take (i := 33) (oi := { dst := some 118, op := _, type := _, pos := _, after := _, guard := _ }) (v := ?_) rfl (by kernel_rfl) (by kernel_rfl) (by kernel_rfl) (fun _ _ _ h => h) (Or.inl ⟨by kernel_rfl, ?_⟩) (by assumption) ?_
          rotate_left
          · (intro w hSw; (try dsimp only at hSw); go_simp); all_goals (with_reducible rfl)
          try simp only [Act.put, List.setIfInBounds_toArray, List.set_cons_zero, List.set_cons_succ]
          refine wpAnyH_take (i := 34) (oi := { dst := some 119, op := _, type := _, pos := _, after := _, guard := _ }) (v := ?_) rfl (by kernel_rfl) (by kernel_rfl) (by kernel_rfl) (fun _ _ _ h => h) (Or.inl ⟨by kernel_rfl, ?_⟩) (by assumption) ?_
          rotate_left
          · (intro w hSw; (try dsimp only at hSw); go_simp); all_goals (with_reducible rfl)
          try simp only [Act.put, List.setIfInBounds_toArray, List.set_cons_zero, List.set_cons_succ]
          refine wpAnyH_take (i := 35) (oi := { dst := some 120, op := _, type := _, pos := _, after := _, guard := _ }) (v := ?_) rfl (by kernel_rfl) (by kernel_rfl) (by kernel_rfl) (fun _ _ _ h => h) (Or.inl ⟨by kernel_rfl, ?_⟩) (by assumption) ?_
          rotate_left
          · (intro w hSw; (try dsimp only at hSw); go_simp); all_goals (with_reducible rfl)
          try simp only [Act.put, List.setIfInBounds_toArray, List.set_cons_zero, List.set_cons_succ]
          refine wpAnyH_take (i := 36) (oi := { dst := some 121, op := _, type := _, pos := _, after := _, guard := _ }) (v := ?_) rfl (by kernel_rfl) (by kernel_rfl) (by kernel_rfl) (fun _ _ _ h => h) (Or.inl ⟨by kernel_rfl, ?_⟩) (by assumption) ?_
          rotate_left
          · (intro w hSw; (try dsimp only at hSw); go_simp); all_goals (with_reducible rfl)
          try simp only [Act.put, List.setIfInBounds_toArray, List.set_cons_zero, List.set_cons_succ]
          refine wpAnyH_take (i := 37) (oi := { dst := some 122, op := _, type := _, pos := _, after := _, guard := _ }) (v := ?_) rfl (by kernel_rfl) (by kernel_rfl) (by kernel_rfl) (fun _ _ _ h => h) (Or.inl ⟨by kernel_rfl, ?_⟩) (by assumption) ?_
          rotate_left
          · (intro w hSw; (try dsimp only at hSw); go_simp); all_goals (with_reducible rfl)
          try simp only [Act.put, List.setIfInBounds_toArray, List.set_cons_zero, List.set_cons_succ]
          refine wpAnyH_take (i := 38) (oi := { dst := some 123, op := _, type := _, pos := _, after := _, guard := _ }) (v := ?_) rfl (by kernel_rfl) (by kernel_rfl) (by kernel_rfl) (fun _ _ _ h => h) (Or.inl ⟨by kernel_rfl, ?_⟩) (by assumption) ?_
          rotate_left
          · (intro w hSw; (try dsimp only at hSw); go_simp); all_goals (with_reducible rfl)
          try simp only [Act.put, List.setIfInBounds_toArray, List.set_cons_zero, List.set_cons_succ]
          refine wpAnyH_take (i := 39) (oi := { dst := some 124, op := _, type := _, pos := _, after := _, guard := _ }) (v := ?_) rfl (by kernel_rfl) (by kernel_rfl) (by kernel_rfl) (fun _ _ _ h => h) (Or.inl ⟨by kernel_rfl, ?_⟩) (by assumption) ?_
          rotate_left
          · (intro w hSw; (try dsimp only at hSw); (have z0 := cell_later hSw X0.out); (have z1 := cell_later hSw X1.out); (have z2 := cell_later hSw X2.out); (have z3 := cell_later hSw X3.out); (have z4 := cell_later hSw X4.out); (have z5 := cell_later hSw X5.out); (have z6 := cell_later hSw K0.out); (have z7 := cell_later hSw K1.out); (have z8 := cell_later hSw K2.out); (have z9 := cell_later hSw K3.out); (have z10 := cell_later hSw K4.out); (have z11 := cell_later hSw K5.out); go_simp); all_goals (with_reducible rfl)
          try simp only [Act.put, List.setIfInBounds_toArray, List.set_cons_zero, List.set_cons_succ]
          refine wpAnyH_take (i := 40) (oi := { dst := some 125, op := _, type := _, pos := _, after := _, guard := _ }) (v := ?_) rfl (by kernel_rfl) (by kernel_rfl) (by kernel_rfl) (fun _ _ _ h => h) (Or.inl ⟨by kernel_rfl, ?_⟩) (by assumption) ?_
          rotate_left
          · (intro w hSw; (try dsimp only at hSw); go_simp); all_goals (with_reducible rfl)
          try simp only [Act.put, List.setIfInBounds_toArray, List.set_cons_zero, List.set_cons_succ]
          refine wpAnyH_take (i := 41) (oi := { dst := some 126, op := _, type := _, pos := _, after := _, guard := _ }) (v := ?_) rfl (by kernel_rfl) (by kernel_rfl) (by kernel_rfl) (fun _ _ _ h => h) (Or.inl ⟨by kernel_rfl, ?_⟩) (by assumption) ?_
          rotate_left
          · (intro w hSw; (try dsimp only at hSw); go_simp); all_goals (with_reducible rfl)
          try simp only [Act.put, List.setIfInBounds_toArray, List.set_cons_zero, List.set_cons_succ]
          refine wpAnyH_take (i := 42) (oi := { dst := some 127, op := _, type := _, pos := _, after := _, guard := _ }) (v := ?_) rfl (by kernel_rfl) (by kernel_rfl) (by kernel_rfl) (fun _ _ _ h => h) (Or.inl ⟨by kernel_rfl, ?_⟩) (by assumption) ?_
          rotate_left
          · (intro w hSw; (try dsimp only at hSw); go_simp); all_goals (with_reducible rfl)
          try simp only [Act.put, List.setIfInBounds_toArray, List.set_cons_zero, List.set_cons_succ]
          refine wpAnyH_take (i := 43) (oi := { dst := some 128, op := _, type := _, pos := _, after := _, guard := _ }) (v := ?_) rfl (by kernel_rfl) (by kernel_rfl) (by kernel_rfl) (fun _ _ _ h => h) (Or.inl ⟨by kernel_rfl, ?_⟩) (by assumption) ?_
          rotate_left
          · (intro w hSw; (try dsimp only at hSw); go_simp); all_goals (with_reducible rfl)
          try simp only [Act.put, List.setIfInBounds_toArray, List.set_cons_zero, List.set_cons_succ]
          refine wpAnyH_take (i := 44) (oi := { dst := some 129, op := _, type := _, pos := _, after := _, guard := _ }) (v := ?_) rfl (by kernel_rfl) (by kernel_rfl) (by kernel_rfl) (fun _ _ _ h => h) (Or.inl ⟨by kernel_rfl, ?_⟩) (by assumption) ?_
          rotate_left
          · (intro w hSw; (try dsimp only at hSw); (have z0 := cell_later hSw X0.out); (have z1 := cell_later hSw X1.out); (have z2 := cell_later hSw X2.out); (have z3 := cell_later hSw X3.out); (have z4 := cell_later hSw X4.out); (have z5 := cell_later hSw X5.out); (have z6 := cell_later hSw K0.out); (have z7 := cell_later hSw K1.out); (have z8 := cell_later hSw K2.out); (have z9 := cell_later hSw K3.out); (have z10 := cell_later hSw K4.out); (have z11 := cell_later hSw K5.out); go_simp); all_goals (with_reducible rfl)
          try simp only [Act.put, List.setIfInBounds_toArray, List.set_cons_zero, List.set_cons_succ]
          refine wpAnyH_take (i := 45) (oi := { dst := some 130, op := _, type := _, pos := _, after := _, guard := _ }) (v := ?_) rfl (by kernel_rfl) (by kernel_rfl) (by kernel_rfl) (fun _ _ _ h => h) (Or.inl ⟨by kernel_rfl, ?_⟩) (by assumption) ?_
          rotate_left
          · (intro w hSw; (try dsimp only at hSw); go_simp); all_goals (with_reducible rfl)
          try simp only [Act.put, List.setIfInBounds_toArray, List.set_cons_zero, List.set_cons_succ]
          refine wpAnyH_take (i := 46) (oi := { dst := some 131, op := _, type := _, pos := _, after := _, guard := _ }) (v := ?_) rfl (by kernel_rfl) (by kernel_rfl) (by kernel_rfl) (fun _ _ _ h => h) (Or.inl ⟨by kernel_rfl, ?_⟩) (by assumption) ?_
          rotate_left
          · (intro w hSw; (try dsimp only at hSw); go_simp); all_goals (with_reducible rfl)
          try simp only [Act.put, List.setIfInBounds_toArray, List.set_cons_zero, List.set_cons_succ]
          refine wpAnyH_take (i := 47) (oi := { dst := some 132, op := _, type := _, pos := _, after := _, guard := _ }) (v := ?_) rfl (by kernel_rfl) (by kernel_rfl) (by kernel_rfl) (fun _ _ _ h => h) (Or.inl ⟨by kernel_rfl, ?_⟩) (by assumption) ?_
          rotate_left
          · (intro w hSw; (try dsimp only at hSw); go_simp); all_goals (with_reducible rfl)
          try simp only [Act.put, List.setIfInBounds_toArray, List.set_cons_zero, List.set_cons_succ]
          refine wpAnyH_take (i := 48) (oi := { dst := some 133, op := _, type := _, pos := _, after := _, guard := _ }) (v := ?_) rfl (by kernel_rfl) (by kernel_rfl) (by kernel_rfl) (fun _ _ _ h => h) (Or.inl ⟨by kernel_rfl, ?_⟩) (by assumption) ?_
          rotate_left
          · (intro w hSw; (try dsimp only at hSw); go_simp); all_goals (with_reducible rfl)
          try simp only [Act.put, List.setIfInBounds_toArray, List.set_cons_zero, List.set_cons_succ]
          refine wpAnyH_take (i := 49) (oi := { dst := some 134, op := _, type := _, pos := _, after := _, guard := _ }) (v := ?_) rfl (by kernel_rfl) (by kernel_rfl) (by kernel_rfl) (fun _ _ _ h => h) (Or.inl ⟨by kernel_rfl, ?_⟩) (by assumption) ?_
          rotate_left
          · (intro w hSw; (try dsimp only at hSw); go_simp); all_goals (with_reducible rfl)
          try simp only [Act.put, List.setIfInBounds_toArray, List.set_cons_zero, List.set_cons_succ]
          refine wpAnyH_take (i := 50) (oi := { dst := some 135, op := _, type := _, pos := _, after := _, guard := _ }) (v := ?_) rfl (by kernel_rfl) (by kernel_rfl) (by kernel_rfl) (fun _ _ _ h => h) (Or.inl ⟨by kernel_rfl, ?_⟩) (by assumption) ?_
          rotate_left
          · (intro w hSw; (try dsimp only at hSw); go_simp); all_goals (with_reducible rfl)
          try simp only [Act.put, List.setIfInBounds_toArray, List.set_cons_zero, List.set_cons_succ]
          refine wpAnyH_take (i := 51) (oi := { dst := some 136, op := _, type := _, pos := _, after := _, guard := _ }) (v := ?_) rfl (by kernel_rfl) (by kernel_rfl) (by kernel_rfl) (fun _ _ _ h => h) (Or.inl ⟨by kernel_rfl, ?_⟩) (by assumption) ?_
          rotate_left
          · (intro w hSw; (try dsimp only at hSw); go_simp); all_goals (with_reducible rfl)
          try simp only [Act.put, List.setIfInBounds_toArray, List.set_cons_zero, List.set_cons_succ]
          refine wpAnyH_take (i := 52) (oi := { dst := some 137, op := _, type := _, pos := _, after := _, guard := _ }) (v := ?_) rfl (by kernel_rfl) (by kernel_rfl) (by kernel_rfl) (fun _ _ _ h => h) (Or.inl ⟨by kernel_rfl, ?_⟩) (by assumption) ?_
          rotate_left
          · (intro w hSw; (try dsimp only at hSw); (have z0 := cell_later hSw X0.out); (have z1 := cell_later hSw X1.out); (have z2 := cell_later hSw X2.out); (have z3 := cell_later hSw X3.out); (have z4 := cell_later hSw X4.out); (have z5 := cell_later hSw X5.out); (have z6 := cell_later hSw K0.out); (have z7 := cell_later hSw K1.out); (have z8 := cell_later hSw K2.out); (have z9 := cell_later hSw K3.out); (have z10 := cell_later hSw K4.out); (have z11 := cell_later hSw K5.out); go_simp); all_goals (with_reducible rfl)
          try simp only [Act.put, List.setIfInBounds_toArray, List.set_cons_zero, List.set_cons_succ]
          refine wpAnyH_take (i := 53) (oi := { dst := some 138, op := _, type := _, pos := _, after := _, guard := _ }) (v := ?_) rfl (by kernel_rfl) (by kernel_rfl) (by kernel_rfl) (fun _ _ _ h => h) (Or.inl ⟨by kernel_rfl, ?_⟩) (by assumption) ?_
          rotate_left
          · (intro w hSw; (try dsimp only at hSw); go_simp); all_goals (with_reducible rfl)
          try simp only [Act.put, List.setIfInBounds_toArray, List.set_cons_zero, List.set_cons_succ]
          refine wpAnyH_take (i := 54) (oi := { dst := some 139, op := _, type := _, pos := _, after := _, guard := _ }) (v := ?_) rfl (by kernel_rfl) (by kernel_rfl) (by kernel_rfl) (fun _ _ _ h => h) (Or.inl ⟨by kernel_rfl, ?_⟩) (by assumption) ?_
          rotate_left
          · (intro w hSw; (try dsimp only at hSw); go_simp); all_goals (with_reducible rfl)
          try simp only [Act.put, List.setIfInBounds_toArray, List.set_cons_zero, List.set_cons_succ]
          refine wpAnyH_take (i := 55) (oi := { dst := some 140, op := _, type := _, pos := _, after := _, guard := _ }) (v := ?_) rfl (by kernel_rfl) (by kernel_rfl) (by kernel_rfl) (fun _ _ _ h => h) (Or.inl ⟨by kernel_rfl, ?_⟩) (by assumption) ?_
          rotate_left
          · (intro w hSw; (try dsimp only at hSw); go_simp); all_goals (with_reducible rfl)
          try simp only [Act.put, List.setIfInBounds_toArray, List.set_cons_zero, List.set_cons_succ]
          refine wpAnyH_take (i := 56) (oi := { dst := some 141, op := _, type := _, pos := _, after := _, guard := _ }) (v := ?_) rfl (by kernel_rfl) (by kernel_rfl) (by kernel_rfl) (fun _ _ _ h => h) (Or.inl ⟨by kernel_rfl, ?_⟩) (by assumption) ?_
          rotate_left
          · (intro w hSw; (try dsimp only at hSw); go_simp); all_goals (with_reducible rfl)
          try simp only [Act.put, List.setIfInBounds_toArray, List.set_cons_zero, List.set_cons_succ]
          refine wpAnyH_take (i := 57) (oi := { dst := some 142, op := _, type := _, pos := _, after := _, guard := _ }) (v := ?_) rfl (by kernel_rfl) (by kernel_rfl) (by kernel_rfl) (fun _ _ _ h => h) (Or.inl ⟨by kernel_rfl, ?_⟩) (by assumption) ?_
          rotate_left
          · (intro w hSw; (try dsimp only at hSw); (have z0 := cell_later hSw X0.out); (have z1 := cell_later hSw X1.out); (have z2 := cell_later hSw X2.out); (have z3 := cell_later hSw X3.out); (have z4 := cell_later hSw X4.out); (have z5 := cell_later hSw X5.out); (have z6 := cell_later hSw K0.out); (have z7 := cell_later hSw K1.out); (have z8 := cell_later hSw K2.out); (have z9 := cell_later hSw K3.out); (have z10 := cell_later hSw K4.out); (have z11 := cell_later hSw K5.out); go_simp); all_goals (with_reducible rfl)
          try simp only [Act.put, List.setIfInBounds_toArray, List.set_cons_zero, List.set_cons_succ]
          refine wpAnyH_take (i := 58) (oi := { dst := some 143, op := _, type := _, pos := _, after := _, guard := _ }) (v := ?_) rfl (by kernel_rfl) (by kernel_rfl) (by kernel_rfl) (fun _ _ _ h => h) (Or.inl ⟨by kernel_rfl, ?_⟩) (by assumption) ?_
          rotate_left
          · (intro w hSw; (try dsimp only at hSw); go_simp); all_goals (with_reducible rfl)
          try simp only [Act.put, List.setIfInBounds_toArray, List.set_cons_zero, List.set_cons_succ]
          refine wpAnyH_take (i := 59) (oi := { dst := some 144, op := _, type := _, pos := _, after := _, guard := _ }) (v := ?_) rfl (by kernel_rfl) (by kernel_rfl) (by kernel_rfl) (fun _ _ _ h => h) (Or.inl ⟨by kernel_rfl, ?_⟩) (by assumption) ?_
          rotate_left
          · (intro w hSw; (try dsimp only at hSw); go_simp); all_goals (with_reducible rfl)
          try simp only [Act.put, List.setIfInBounds_toArray, List.set_cons_zero, List.set_cons_succ]
          refine wpAnyH_take (i := 60) (oi := { dst := some 145, op := _, type := _, pos := _, after := _, guard := _ }) (v := ?_) rfl (by kernel_rfl) (by kernel_rfl) (by kernel_rfl) (fun _ _ _ h => h) (Or.inl ⟨by kernel_rfl, ?_⟩) (by assumption) ?_
          rotate_left
          · (intro w hSw; (try dsimp only at hSw); go_simp); all_goals (with_reducible rfl)
          try simp only [Act.put, List.setIfInBounds_toArray, List.set_cons_zero, List.set_cons_succ]
          refine wpAnyH_take (i := 61) (oi := { dst := some 146, op := _, type := _, pos := _, after := _, guard := _ }) (v := ?_) rfl (by kernel_rfl) (by kernel_rfl) (by kernel_rfl) (fun _ _ _ h => h) (Or.inl ⟨by kernel_rfl, ?_⟩) (by assumption) ?_
          rotate_left
          · (intro w hSw; (try dsimp only at hSw); go_simp); all_goals (with_reducible rfl)
          try simp only [Act.put, List.setIfInBounds_toArray, List.set_cons_zero, List.set_cons_succ]
          refine wpAnyH_take (i := 62) (oi := { dst := some 147, op := _, type := _, pos := _, after := _, guard := _ }) (v := ?_) rfl (by kernel_rfl) (by kernel_rfl) (by kernel_rfl) (fun _ _ _ h => h) (Or.inl ⟨by kernel_rfl, ?_⟩) (by assumption) ?_
          rotate_left
          · (intro w hSw; (try dsimp only at hSw); go_simp); all_goals (with_reducible rfl)
          try simp only [Act.put, List.setIfInBounds_toArray, List.set_cons_zero, List.set_cons_succ]
          refine wpAnyH_take (i := 63) (oi := { dst := some 148, op := _, type := _, pos := _, after := _, guard := _ }) (v := ?_) rfl (by kernel_rfl) (by kernel_rfl) (by kernel_rfl) (fun _ _ _ h => h) (Or.inl ⟨by kernel_rfl, ?_⟩) (by assumption) ?_
          rotate_left
          · (intro w hSw; (try dsimp only at hSw); go_simp); all_goals (with_reducible rfl)
          try simp only [Act.put, List.setIfInBounds_toArray, List.set_cons_zero, List.set_cons_succ]
          refine wpAnyH_take (i := 64) (oi := { dst := some 149, op := _, type := _, pos := _, after := _, guard := _ }) (v := ?_) rfl (by kernel_rfl) (by kernel_rfl) (by kernel_rfl) (fun _ _ _ h => h) (Or.inl ⟨by kernel_rfl, ?_⟩) (by assumption) ?_
          rotate_left
          · (intro w hSw; (try dsimp only at hSw); go_simp); all_goals (with_reducible rfl)
          try simp only [Act.put, List.setIfInBounds_toArray, List.set_cons_zero, List.set_cons_succ]
          refine wpAnyH_take (i := 65) (oi := { dst := some 150, op := _, type := _, pos := _, after := _, guard := _ }) (v := ?_) rfl (by kernel_rfl) (by kernel_rfl) (by kernel_rfl) (fun _ _ _ h => h) (Or.inl ⟨by kernel_rfl, ?_⟩) (by assumption) ?_
          rotate_left
          · (intro w hSw; (try dsimp only at hSw); (have z0 := cell_later hSw X0.out); (have z1 := cell_later hSw X1.out); (have z2 := cell_later hSw X2.out); (have z3 := cell_later hSw X3.out); (have z4 := cell_later hSw X4.out); (have z5 := cell_later hSw X5.out); (have z6 := cell_later hSw K0.out); (have z7 := cell_later hSw K1.out); (have z8 := cell_later hSw K2.out); (have z9 := cell_later hSw K3.out); (have z10 := cell_later hSw K4.out); (have z11 := cell_later hSw K5.out); go_simp); all_goals (with_reducible rfl)
          try simp only [Act.put, List.setIfInBounds_toArray, List.set_cons_zero, List.set_cons_succ]
          refine wpAnyH_take (i := 66) (oi := { dst := some 151, op := _, type := _, pos := _, after := _, guard := _ }) (v := ?_) rfl (by kernel_rfl) (by kernel_rfl) (by kernel_rfl) (fun _ _ _ h => h) (Or.inl ⟨by kernel_rfl, ?_⟩) (by assumption) ?_
          rotate_left
          · (intro w hSw; (try dsimp only at hSw); go_simp); all_goals (with_reducible rfl)
          try simp only [Act.put, List.setIfInBounds_toArray, List.set_cons_zero, List.set_cons_succ]
          refine wpAnyH_take (i := 67) (oi := { dst := some 152, op := _, type := _, pos := _, after := _, guard := _ }) (v := ?_) rfl (by kernel_rfl) (by kernel_rfl) (by kernel_rfl) (fun _ _ _ h => h) (Or.inl ⟨by kernel_rfl, ?_⟩) (by assumption) ?_
          rotate_left
          · (intro w hSw; (try dsimp only at hSw); go_simp); all_goals (with_reducible rfl)
          try simp only [Act.put, List.setIfInBounds_toArray, List.set_cons_zero, List.set_cons_succ]
          refine wpAnyH_take (i := 68) (oi := { dst := some 153, op := _, type := _, pos := _, after := _, guard := _ }) (v := ?_) rfl (by kernel_rfl) (by kernel_rfl) (by kernel_rfl) (fun _ _ _ h => h) (Or.inl ⟨by kernel_rfl, ?_⟩) (by assumption) ?_
          rotate_left
          · (intro w hSw; (try dsimp only at hSw); go_simp); all_goals (with_reducible rfl)
          try simp only [Act.put, List.setIfInBounds_toArray, List.set_cons_zero, List.set_cons_succ]
          refine wpAnyH_take (i := 69) (oi := { dst := some 154, op := _, type := _, pos := _, after := _, guard := _ }) (v := ?_) rfl (by kernel_rfl) (by kernel_rfl) (by kernel_rfl) (fun _ _ _ h => h) (Or.inl ⟨by kernel_rfl, ?_⟩) (by assumption) ?_
          rotate_left
          · (intro w hSw; (try dsimp only at hSw); go_simp); all_goals (with_reducible rfl)
          try simp only [Act.put, List.setIfInBounds_toArray, List.set_cons_zero, List.set_cons_succ]
          refine wpAnyH_take (i := 70) (oi := { dst := some 155, op := _, type := _, pos := _, after := _, guard := _ }) (v := ?_) rfl (by kernel_rfl) (by kernel_rfl) (by kernel_rfl) (fun _ _ _ h => h) (Or.inl ⟨by kernel_rfl, ?_⟩) (by assumption) ?_
          rotate_left
          · (intro w hSw; (try dsimp only at hSw); (have z0 := cell_later hSw X0.out); (have z1 := cell_later hSw X1.out); (have z2 := cell_later hSw X2.out); (have z3 := cell_later hSw X3.out); (have z4 := cell_later hSw X4.out); (have z5 := cell_later hSw X5.out); (have z6 := cell_later hSw K0.out); (have z7 := cell_later hSw K1.out); (have z8 := cell_later hSw K2.out); (have z9 := cell_later hSw K3.out); (have z10 := cell_later hSw K4.out); (have z11 := cell_later hSw K5.out); go_simp); all_goals (with_reducible rfl)
          try simp only [Act.put, List.setIfInBounds_toArray, List.set_cons_zero, List.set_cons_succ]
          refine wpAnyH_take (i := 71) (oi := { dst := some 156, op := _, type := _, pos := _, after := _, guard := _ }) (v := ?_) rfl (by kernel_rfl) (by kernel_rfl) (by kernel_rfl) (fun _ _ _ h => h) (Or.inl ⟨by kernel_rfl, ?_⟩) (by assumption) ?_
          rotate_left
          · (intro w hSw; (try dsimp only at hSw); go_simp); all_goals (with_reducible rfl)
          try simp only [Act.put, List.setIfInBounds_toArray, List.set_cons_zero, List.set_cons_succ]
          refine wpAnyH_take (i := 72) (oi := { dst := some 157, op := _, type := _, pos := _, after := _, guard := _ }) (v := ?_) rfl (by kernel_rfl) (by kernel_rfl) (by kernel_rfl) (fun _ _ _ h => h) (Or.inl ⟨by kernel_rfl, ?_⟩) (by assumption) ?_
          rotate_left
          · (intro w hSw; (try dsimp only at hSw); go_simp); all_goals (with_reducible rfl)
          try simp only [Act.put, List.setIfInBounds_toArray, List.set_cons_zero, List.set_cons_succ]
          refine wpAnyH_done (by kernel_rfl) ?_ _
          have BQ := Lib.hid hS0
          clear hS0
          go_wp2
          go_loopg [15] r.fields.length (fun gg s15 wx => ∃ k : Nat, k ≤ r.fields.length ∧ r.fields.length - k ≤ gg ∧ s15 = .int .i64 k ∧ Hid (Below wo.heap.size wo wx))
          case atStart => exact ⟨0, Nat.zero_le _, by omega, rfl, BQ⟩
          case round =>
            obtain ⟨k, hkn, hgk, rfl, BX⟩ := hrel
            by_cases hlk : k < r.fields.length
            · have hlkz : (k : Int) < (r.fields.length : Int) := by omega
              have hlkf : (k : Int) < (F.length : Int) := by omega
              obtain ⟨f, hkf⟩ : ∃ f, r.fields[k]? = some f := ⟨_, List.getElem?_eq_getElem hlk⟩
              obtain ⟨a8, c8, hq1, _, _, hq2⟩ := KF.out
              have hq1 := (Value.slice.inj hq1).1
              obtain ⟨a9, c9, hq3, _, _, hq4⟩ := PX.out
              have hq3 := (Value.slice.inj hq3).1
              obtain ⟨b1, o1, hb1, u0, u1⟩ := hq2 k f hkf
              obtain ⟨b2, o2, hb2, y0, y1⟩ := hq4 k f (HF.out k f hkf)
              rw [hb1] at hq1
              rw [hb2] at hq3
              clear hb1 hb2 hq2 hq4
              subst hq1 hq3
              have U0 := Lib.hid u0
              have U1 := Lib.hid u1
              have V0 := Lib.hid y0
              have V1 := Lib.hid y1
              have hne2 : ∀ W, (binOp .neq 58 (.agg #[.string ⟨f.1.toArray⟩, .string ⟨f.2.toArray⟩]) (.agg #[.string ⟨f.1.toArray⟩, .string ⟨f.2.toArray⟩])).run Tryz.prog W = .ok (.bool false) W := fun W => by rw [neq_pair f f W, decide_eq_true rfl]; rfl
              clear u0 u1 y0 y1 hkf hlk
              go_upto_region 26 with (fail)
              refine wp_region_held_drew (S := (fun W : World => Below wo.heap.size wo W)) (by kernel_rfl) (Below.drew BX.out) (fun hS0 => ?_)
              refine wpAnyH_take (i := 0) (oi := { dst := some 163, op := _, type := _, pos := _, after := _, guard := _ }) (v := ?_) rfl (by kernel_rfl) (by kernel_rfl) (by kernel_rfl) (fun _ _ _ h => h) (Or.inl ⟨by kernel_rfl, ?_⟩) (by assumption) ?_
              rotate_left
              · (intro w hSw; (try dsimp only at hSw); go_simp); all_goals (with_reducible rfl)
              try simp only [Act.put, List.setIfInBounds_toArray, List.set_cons_zero, List.set_cons_succ]
              refine wpAnyH_take (i := 1) (oi := { dst := some 164, op := _, type := _, pos := _, after := _, guard := _ }) (v := ?_) rfl (by kernel_rfl) (by kernel_rfl) (by kernel_rfl) (fun _ _ _ h => h) (Or.inl ⟨by kernel_rfl, ?_⟩) (by assumption) ?_
              rotate_left
              · (intro w hSw; (try dsimp only at hSw); go_simp); all_goals (with_reducible rfl)
              try simp only [Act.put, List.setIfInBounds_toArray, List.set_cons_zero, List.set_cons_succ]
              refine wpAnyH_take (i := 2) (oi := { dst := some 165, op := _, type := _, pos := _, after := _, guard := _ }) (v := ?_) rfl (by kernel_rfl) (by kernel_rfl) (by kernel_rfl) (fun _ _ _ h => h) (Or.inl ⟨by kernel_rfl, ?_⟩) (by assumption) ?_
              rotate_left
              · (intro w hSw; (try dsimp only at hSw); go_simp); all_goals (with_reducible rfl)
              try simp only [Act.put, List.setIfInBounds_toArray, List.set_cons_zero, List.set_cons_succ]
              refine wpAnyH_take (i := 3) (oi := { dst := some 166, op := _, type := _, pos := _, after := _, guard := _ }) (v := ?_) rfl (by kernel_rfl) (by kernel_rfl) (by kernel_rfl) (fun _ _ _ h => h) (Or.inl ⟨by kernel_rfl, ?_⟩) (by assumption) ?_
              rotate_left
              · (intro w hSw; (try dsimp only at hSw); go_simp); all_goals (with_reducible rfl)
              try simp only [Act.put, List.setIfInBounds_toArray, List.set_cons_zero, List.set_cons_succ]
              refine wpAnyH_take (i := 4) (oi := { dst := some 167, op := _, type := _, pos := _, after := _, guard := _ }) (v := ?_) rfl (by kernel_rfl) (by kernel_rfl) (by kernel_rfl) (fun _ _ _ h => h) (Or.inl ⟨by kernel_rfl, ?_⟩) (by assumption) ?_
              rotate_left
              · (intro w hSw; (try dsimp only at hSw); (have z0 := cell_later hSw X3.out); (have z1 := cell_later hSw K3.out); (have z2 := cell_later hSw U0.out); (have z3 := cell_later hSw U1.out); (have z4 := cell_later hSw V0.out); (have z5 := cell_later hSw V1.out); go_simp); all_goals (with_reducible rfl)
              try simp only [Act.put, List.setIfInBounds_toArray, List.set_cons_zero, List.set_cons_succ]
              refine wpAnyH_take (i := 5) (oi := { dst := some 168, op := _, type := _, pos := _, after := _, guard := _ }) (v := ?_) rfl (by kernel_rfl) (by kernel_rfl) (by kernel_rfl) (fun _ _ _ h => h) (Or.inl ⟨by kernel_rfl, ?_⟩) (by assumption) ?_
              rotate_left
              · (intro w hSw; (try dsimp only at hSw); go_simp); all_goals (with_reducible rfl)
              try simp only [Act.put, List.setIfInBounds_toArray, List.set_cons_zero, List.set_cons_succ]
              refine wpAnyH_take (i := 6) (oi := { dst := some 169, op := _, type := _, pos := _, after := _, guard := _ }) (v := ?_) rfl (by kernel_rfl) (by kernel_rfl) (by kernel_rfl) (fun _ _ _ h => h) (Or.inl ⟨by kernel_rfl, ?_⟩) (by assumption) ?_
              rotate_left
              · (intro w hSw; (try dsimp only at hSw); go_simp); all_goals (with_reducible rfl)
              try simp only [Act.put, List.setIfInBounds_toArray, List.set_cons_zero, List.set_cons_succ]
              refine wpAnyH_take (i := 7) (oi := { dst := some 170, op := _, type := _, pos := _, after := _, guard := _ }) (v := ?_) rfl (by kernel_rfl) (by kernel_rfl) (by kernel_rfl) (fun _ _ _ h => h) (Or.inl ⟨by kernel_rfl, ?_⟩) (by assumption) ?_
              rotate_left
              · (intro w hSw; (try dsimp only at hSw); (have z0 := cell_later hSw X3.out); (have z1 := cell_later hSw K3.out); (have z2 := cell_later hSw U0.out); (have z3 := cell_later hSw U1.out); (have z4 := cell_later hSw V0.out); (have z5 := cell_later hSw V1.out); go_simp); all_goals (with_reducible rfl)
              try simp only [Act.put, List.setIfInBounds_toArray, List.set_cons_zero, List.set_cons_succ]
              refine wpAnyH_take (i := 8) (oi := { dst := some 171, op := _, type := _, pos := _, after := _, guard := _ }) (v := ?_) rfl (by kernel_rfl) (by kernel_rfl) (by kernel_rfl) (fun _ _ _ h => h) (Or.inl ⟨by kernel_rfl, ?_⟩) (by assumption) ?_
              rotate_left
              · (intro w hSw; (try dsimp only at hSw); go_simp); all_goals (with_reducible rfl)
              try simp only [Act.put, List.setIfInBounds_toArray, List.set_cons_zero, List.set_cons_succ]
              refine wpAnyH_take (i := 9) (oi := { dst := some 172, op := _, type := _, pos := _, after := _, guard := _ }) (v := ?_) rfl (by kernel_rfl) (by kernel_rfl) (by kernel_rfl) (fun _ _ _ h => h) (Or.inl ⟨by kernel_rfl, ?_⟩) (by assumption) ?_
              rotate_left
              · (intro w hSw; (try dsimp only at hSw); go_simp); all_goals (with_reducible rfl)
              try simp only [Act.put, List.setIfInBounds_toArray, List.set_cons_zero, List.set_cons_succ]
              refine wpAnyH_take (i := 10) (oi := { dst := some 173, op := _, type := _, pos := _, after := _, guard := _ }) (v := ?_) rfl (by kernel_rfl) (by kernel_rfl) (by kernel_rfl) (fun _ _ _ h => h) (Or.inl ⟨by kernel_rfl, ?_⟩) (by assumption) ?_
              rotate_left
              · (intro w hSw; (try dsimp only at hSw); go_simp); all_goals (with_reducible rfl)
              try simp only [Act.put, List.setIfInBounds_toArray, List.set_cons_zero, List.set_cons_succ]
              refine wpAnyH_take (i := 11) (oi := { dst := some 174, op := _, type := _, pos := _, after := _, guard := _ }) (v := ?_) rfl (by kernel_rfl) (by kernel_rfl) (by kernel_rfl) (fun _ _ _ h => h) (Or.inl ⟨by kernel_rfl, ?_⟩) (by assumption) ?_
              rotate_left
              · (intro w hSw; (try dsimp only at hSw); go_simp); all_goals (with_reducible rfl)
              try simp only [Act.put, List.setIfInBounds_toArray, List.set_cons_zero, List.set_cons_succ]
              refine wpAnyH_take (i := 12) (oi := { dst := some 175, op := _, type := _, pos := _, after := _, guard := _ }) (v := ?_) rfl (by kernel_rfl) (by kernel_rfl) (by kernel_rfl) (fun _ _ _ h => h) (Or.inl ⟨by kernel_rfl, ?_⟩) (by assumption) ?_
              rotate_left
              · (intro w hSw; (try dsimp only at hSw); (have z0 := cell_later hSw X3.out); (have z1 := cell_later hSw K3.out); (have z2 := cell_later hSw U0.out); (have z3 := cell_later hSw U1.out); (have z4 := cell_later hSw V0.out); (have z5 := cell_later hSw V1.out); go_simp); all_goals (with_reducible rfl)
              try simp only [Act.put, List.setIfInBounds_toArray, List.set_cons_zero, List.set_cons_succ]
              refine wpAnyH_take (i := 13) (oi := { dst := some 176, op := _, type := _, pos := _, after := _, guard := _ }) (v := ?_) rfl (by kernel_rfl) (by kernel_rfl) (by kernel_rfl) (fun _ _ _ h => h) (Or.inl ⟨by kernel_rfl, ?_⟩) (by assumption) ?_
              rotate_left
              · (intro w hSw; (try dsimp only at hSw); go_simp); all_goals (with_reducible rfl)
              try simp only [Act.put, List.setIfInBounds_toArray, List.set_cons_zero, List.set_cons_succ]
              refine wpAnyH_take (i := 14) (oi := { dst := some 177, op := _, type := _, pos := _, after := _, guard := _ }) (v := ?_) rfl (by kernel_rfl) (by kernel_rfl) (by kernel_rfl) (fun _ _ _ h => h) (Or.inl ⟨by kernel_rfl, ?_⟩) (by assumption) ?_
              rotate_left
              · (intro w hSw; (try dsimp only at hSw); go_simp); all_goals (with_reducible rfl)
              try simp only [Act.put, List.setIfInBounds_toArray, List.set_cons_zero, List.set_cons_succ]
              refine wpAnyH_take (i := 15) (oi := { dst := some 178, op := _, type := _, pos := _, after := _, guard := _ }) (v := ?_) rfl (by kernel_rfl) (by kernel_rfl) (by kernel_rfl) (fun _ _ _ h => h) (Or.inl ⟨by kernel_rfl, ?_⟩) (by assumption) ?_
              rotate_left
              · (intro w hSw; (try dsimp only at hSw); (have z0 := cell_later hSw X3.out); (have z1 := cell_later hSw K3.out); (have z2 := cell_later hSw U0.out); (have z3 := cell_later hSw U1.out); (have z4 := cell_later hSw V0.out); (have z5 := cell_later hSw V1.out); go_simp); all_goals (with_reducible rfl)
              try simp only [Act.put, List.setIfInBounds_toArray, List.set_cons_zero, List.set_cons_succ]
              refine wpAnyH_take (i := 16) (oi := { dst := some 179, op := _, type := _, pos := _, after := _, guard := _ }) (v := ?_) rfl (by kernel_rfl) (by kernel_rfl) (by kernel_rfl) (fun _ _ _ h => h) (Or.inl ⟨by kernel_rfl, ?_⟩) (by assumption) ?_
              rotate_left
              · (intro w hSw; (try dsimp only at hSw); go_simp); all_goals (with_reducible rfl)
              try simp only [Act.put, List.setIfInBounds_toArray, List.set_cons_zero, List.set_cons_succ]
              refine wpAnyH_done (by kernel_rfl) ?_ _
              have BQ := Lib.hid hS0
              clear hS0
              have BY := Lib.hid (Below.drew BX.out)
              go_wp2
              go_roundg (r.fields.length - (k + 1))
              case measure => omega
              case rel => exact ⟨k + 1, by omega, by omega, by go_num, BY⟩
            · have hlkz : (r.fields.length : Int) ≤ (k : Int) := by omega
              go_wp2
              go_roundg (W.length - (i + 1))
              case measure => omega
              case rel => exact ⟨i + 1, by omega, by omega, by go_num, BR.out.trans (BX.out.mono BR.out.size)⟩
        · have he : i = W.length := by omega
          subst he
          go_wp2
          go_ret
          exact ⟨rfl, B3.out.trans (BR.out.mono B3.out.size)⟩
end Go.Proofs.YtdilmefeofdkmaaGreatDoor
