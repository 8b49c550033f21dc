/-
  storehouseref20.page. (Printed by wip/gen/lsrpg.py.)
-/
import Derived.Test.YtgklbmcnpnmkkaaDoorLsREnts
namespace Go.Proofs.YtgklbmcnpnmkkaaDoor
open Go.RowKit Go.Lib

def pdZ : PageD := ⟨[], false, [], 0⟩
def pgC (vr : Value) (p : PageD) : Array Value := #[vr, .bool p.more, .string ⟨p.next.toArray⟩, .int .i64 p.entry]
/-- the page that is being made -/
structure PgR (w2 W : World) (gp : Nat) (es : List RowV) (p : PageD) (vr : Value) (qs : List RowV) : Prop where
  below : Below w2.heap.size w2 W
  past : w2.heap.size ≤ gp
  page : W.heap[gp]? = some (.cells (pgC vr p) 26 (0, 0))
  own : W.ownsRow (gp + 1) 36 18 vr qs.length (qs.map RowV.cells).flatten
  says : qs.map RowV.d = p.rows
  mem : ∀ q ∈ qs, q ∈ es
theorem PgR.later {w2 W W' : World} {gp : Nat} {es : List RowV} {p : PageD} {vr : Value} {qs : List RowV} (h : PgR w2 W gp es p vr qs) (hb : Below W.heap.size W W') : PgR w2 W' gp es p vr qs :=
  ⟨h.below.trans (hb.mono h.below.size), h.past, (hb.block _ (Array.getElem?_eq_some_iff.1 h.page).1).trans h.page, own_later h.own hb, h.says, h.mem⟩
theorem PgR.set {w2 W : World} {gp : Nat} {es : List RowV} {p p' : PageD} {vr : Value} {qs : List RowV} (h : PgR w2 W gp es p vr qs) {new : Array Value} (hn : new = pgC vr p') (hr : p'.rows = p.rows) : PgR w2 (W.setRow gp new) gp es p' vr qs := by
  subst hn
  exact ⟨below_one_row _ _ _ _ _ h.below h.past, h.past, setRow_heap _ _ _ _ _ _ h.page, own_set h.own _ (Nat.lt_succ_self _), h.says.trans hr.symm, h.mem⟩
theorem PgR.push {w2 W w1 : World} {gp : Nat} {es : List RowV} {p : PageD} {vr v1 : Value} {qs : List RowV} {q : RowV} (h : PgR w2 W gp es p vr qs) (hq : q ∈ es) (hown : w1.ownsRow (gp + 1) 36 18 v1 (qs.length + 1) ((qs.map RowV.cells).flatten ++ q.cells)) (hg : W.grownBy w1 vr.ownBlock) {new : Array Value} (hn : new = pgC v1 p) :
    w1.heap[gp]? = some (.cells (pgC vr p) 26 (0, 0)) ∧ PgR w2 (w1.setRow gp new) gp es { p with rows := p.rows ++ [q.d] } v1 (qs ++ [q]) := by
  subst hn
  have hp : w1.heap[gp]? = some (.cells (pgC vr p) 26 (0, 0)) := (hg.block _ (Array.getElem?_eq_some_iff.1 h.page).1 (fun e => by have := (h.own.lt gp e.symm).1; omega)).trans h.page
  have hb : Below w2.heap.size w2 w1 := ⟨hg.os.trans h.below.os, hg.tape.trans h.below.tape, hg.output.trans h.below.output, Nat.le_trans h.below.size hg.size, fun b hbb => (hg.block b (Nat.lt_of_lt_of_le hbb h.below.size) (fun e => by have := (h.own.lt b e.symm).1; have := h.past; omega)).trans (h.below.block b hbb)⟩
  refine ⟨hp, below_one_row _ _ _ _ _ hb h.past, h.past, setRow_heap _ _ _ _ _ _ hp, own_set ?_ _ (Nat.lt_succ_self _), by simp [h.says], fun x hx => ?_⟩
  · rw [List.length_append]
    simpa using hown
  · rcases List.mem_append.1 hx with hx | hx
    · exact h.mem x hx
    · rw [List.mem_singleton.1 hx]; exact hq
theorem PgR.at {w2 W : World} {gp : Nat} {es : List RowV} {p : PageD} {ar : Option Addr} {cr : Nat} {qs : List RowV} (h : PgR w2 W gp es p (.slice ar qs.length cr) qs) (hl : qs.length ≤ 140737488351232) {i : Nat} {q : RowV} (hi : qs[i]? = some q) :
    ∃ b off, ar = some ⟨b, off, none⟩ ∧ ∀ j u, q.cells[j]? = some u → W.cell? ⟨b, off + i * 18 + j, none⟩ = some u := by
  have hs := own_slAt (rows := qs.map RowV.cells) (by rw [List.length_map]; exact h.own) (fun r hr => by obtain ⟨_, _, rfl⟩ := List.mem_map.1 hr; rfl) (by rw [List.length_map]; exact hl)
  obtain ⟨a', c', he, _, hc⟩ := hs
  injection he with h1 _ _
  subst h1
  exact hc i q.cells (by rw [List.getElem?_map, hi]; rfl)
theorem PgR.ne {w2 W : World} {gp : Nat} {es : List RowV} {p : PageD} {n cr : Nat} {qs : List RowV} {b o : Nat} (ar : Option Addr) (he : ar = some ⟨b, o, none⟩) (h : PgR w2 W gp es p (.slice ar n cr) qs) : b ≠ gp := by
  subst he
  have := (h.own.lt b rfl).1
  omega
theorem PgR.one {w2 W : World} {gp : Nat} {es : List RowV} {p : PageD} {vr : Value} {qs : List RowV} (h : PgR w2 W gp es p vr qs) : (pgC vr p).all (·.oneCell') = true := by
  obtain ⟨a, c, rfl⟩ := own_form h.own
  unfold pgC
  rw [List.all_toArray]
  rfl
theorem RowV.at18 (p : RowV) : p.cells.toArray.size = 18 := rfl
/-- an entry is a step -/
structure StepOK (M : Nat) (p : PageD) : Prop where
  len : p.rows.length ≤ M
  more : p.more = false → p.next = [] ∧ p.entry = 0
theorem StepOK.step {k : Kind} {after : List UInt8} {number : Int} {M : Nat} {p : PageD} (h : StepOK M p) (e : RowD) : StepOK M (pageStep k after number M p e) := by
  unfold pageStep
  split
  · exact h
  · split
    · exact ⟨by simp; omega, h.more⟩
    · split
      · exact ⟨h.len, fun hx => by cases hx⟩
      · exact h
theorem fold_take {α : Type} (f : PageD → α → PageD) (z : PageD) {l : List α} {i : Nat} {x : α} (h : l[i]? = some x) : (l.take (i + 1)).foldl f z = f ((l.take i).foldl f z) x := by
  rw [List.take_add_one, h]
  simp
theorem rPage_val {k : Kind} {after : List UInt8} {number most : Int} (l : List RowD) (pre delim : List UInt8) : (rEnts k pre delim [] l).foldl (pageStep k after number (mostN most)) pdZ = pageL k l pre delim after number most := by
  rw [rEnts_eq]
  simp only [List.nil_append, List.getLastD_nil]
  exact (pageStep_fold _ ents_common).trans rfl
/-- is it beyond, number by number -/
def numAsked (k : Kind) (after : List UInt8) (number : Int) (e : RowD) : Bool := decide (k ≠ .objs ∧ 0 < number ∧ e.common = false ∧ e.key = after)
theorem numAsked_true {k : Kind} {after : List UInt8} {number : Int} {e : RowD} (h : numAsked k after number e = true) : rBeyond k after number e = behindN k (seqOf k e) number := by
  unfold rBeyond
  rw [if_pos (of_decide_eq_true h)]
theorem numAsked_false {k : Kind} {after : List UInt8} {number : Int} {e : RowD} (h : numAsked k after number e = false) : rBeyond k after number e = Op.bytesLess after e.key := by
  unfold rBeyond
  rw [if_neg (of_decide_eq_false h)]

set_option maxHeartbeats 8000000 in
set_option maxRecDepth 100000 in
theorem rPg_any (k : Kind) {w : World} {a0 : Option Addr} {c0 : Nat} {ps : List RowV} {pre delim after : List UInt8} {number most : Int} (h : RowsIn w (.slice a0 ps.length c0) ps) (hz : ∀ p ∈ ps, SizeOK p.d) (hk : ∀ p ∈ ps, p.d.key.length ≤ 140737488355328) (hl : ps.length ≤ 16777216)
    (hpre : pre.length ≤ 140737488355328) (hdel : delim.length ≤ 140737488355300) (hk0 : k = .objs → number = 0) :
    Calls Tryd.prog 44 #[.slice a0 ps.length c0, .string ⟨pre.toArray⟩, .string ⟨delim.toArray⟩, .string ⟨after.toArray⟩, .int .i64 number, .int .i64 most, .int .i64 (kindI k)] w (PageOut (pageL k (ps.map RowV.d) pre delim after number most) w) := by
  obtain ⟨i0, hi0, hz0, hz1, hz2⟩ := info_row
  have HE := Lib.hid (rEnts_any k (h.later (below_alloc (Below.refl _ w) (Nat.le_refl _) (.cells pageZC 26))) hz hk hl hpre hdel)
  rw [← rPage_val]
  have HK0 := Lib.hid hk0
  have hel : (rEnts k pre delim [] (ps.map RowV.d)).length ≤ 16777216 := by
    rw [rEnts_eq]
    have := ents_len (k := k) (pre := pre) (delim := delim) (ps.map RowV.d) (([] : List RowD).getLastD rowZ)
    simp only [List.nil_append]
    rw [List.length_map] at this
    omega
  generalize rEnts k pre delim [] (ps.map RowV.d) = E at *
  clear h hz hk hk0
  go_enter Tryd.func44, Tryd.ntmps44
  go_wp2_with fail
  rw [mostN_eq]
  have hM := mostN_le most
  generalize mostN most = M at *
  refine HE.out.mono ?_
  rintro e w2 ⟨v, es, rfl, hq, hr, hb⟩
  obtain ⟨av, cv, rfl⟩ := own_form hr.own
  have hal : es.length = E.length := by rw [← hq, List.length_map]
  have HAS := Lib.hid hq
  have HR := Lib.hid hr
  have BZ : Below w.heap.size w (w.alloc (.cells pageZC 26)) := below_alloc (Below.refl _ w) (Nat.le_refl _) _
  have HB := Lib.hid (BZ.trans (hb.mono BZ.size))
  have HGR : Hid (w2.heap[w.heap.size]? = some (.cells pageZC 26 (0, 0))) := (hb.block _ (by simp)).trans (heap_alloc_new _ _)
  clear hq hr hb BZ HE
  go_upto_region 4 with (fail)
  obtain ⟨W3, hW3⟩ : ∃ W3, w2.alloc (.cells pageZC 26) = W3 := ⟨_, rfl⟩
  have HP3 : Hid (PgR w2 W3 w2.heap.size es pdZ (.slice none 0 0) []) := by
    show PgR _ _ _ _ _ _ _
    rw [← hW3]
    exact ⟨below_alloc (Below.refl _ _) (Nat.le_refl _) _, Nat.le_refl _, heap_alloc_new _ _, World.ownsRow_nil _ _ _ _, rfl, fun q hq => by cases hq⟩
  unfold pageZC at hW3
  rw [hW3]
  clear hW3
  go_wp2_with fail
  go_loopg [17] es.length (fun gg s17 wr => ∃ (i : Nat) (pd : PageD) (vr : Value) (qs : List RowV), i ≤ es.length ∧ es.length - i ≤ gg ∧ s17 = .int .i64 i ∧ Hid (PgR w2 wr w2.heap.size es pd vr qs) ∧ Hid (pd = (E.take i).foldl (pageStep k after number M) pdZ) ∧ Hid (StepOK M pd))
  case atStart => exact ⟨0, pdZ, _, _, Nat.zero_le _, by omega, rfl, HP3.out, rfl, (⟨Nat.zero_le _, fun _ => ⟨rfl, rfl⟩⟩ : StepOK M pdZ)⟩
  case round =>
    obtain ⟨i, pd, vr, qs, hin, hgg, rfl, HP, HFD, HST⟩ := hrel
    by_cases hlt : i < es.length
    · have hiz : (i : Int) < (es.length : Int) := by omega
      obtain ⟨p, hip⟩ : ∃ p, es[i]? = some p := ⟨_, List.getElem?_eq_getElem hlt⟩
      have HPM := Lib.hid (List.mem_of_getElem? hip)
      have HFD2 : Hid ((E.take (i + 1)).foldl (pageStep k after number M) pdZ = pageStep k after number M pd p.d) := by
        show _ = _
        rw [fold_take _ _ (i := i) (x := p.d) (by rw [← HAS.out, List.getElem?_map, hip]; rfl), ← HFD.out]
      obtain ⟨b1, o1, rfl, hcp⟩ := (HR.out.later HP.out.below).at (by omega) hip
      have HC1 : Hid (wr.rangeAt b1 (o1 + i * 18) p.cells) := hcp
      obtain ⟨pc, hpc⟩ : ∃ pc, p.cells.toArray = pc := ⟨_, rfl⟩
      have HPC := Lib.hid hpc
      have HSZ : Hid ((Tryd.prog.info? 36).map (·.size) = some pc.size) := by show _ = _; rw [← hpc]; rfl
      have HSZ2 : Hid (rowZC.size = pc.size) := by show _ = _; rw [← hpc]; rfl
      have HONE : Hid (pc.all (·.oneCell') = true) := by show _ = _; rw [← hpc, List.all_toArray, List.all_eq_true]; exact (HR.out.rows p HPM.out).one_mem
      clear hcp hip HFD
      go_upto_region 8 with (first
        | (refine wpList_load_mid (by rfl) 36 _ (by rfl) b1 (o1 + i * 18) (by rfl) p.cells _ HC1.out Tryd.underlying36 rfl (by rfl) ?_; rw [hpc])
        | (refine wpList_store_rowN (by rfl) 36 _ _ (by rfl) wr.heap.size pc (by rfl) (by rfl) 36 rowZC (by exact heap_alloc_new _ _) (by exact HSZ.out) (by exact HSZ2.out) (by exact HONE.out) (fun W => W.heap[wr.heap.size]? = some (.cells pc 36 (0, 0)) ∧ Below wr.heap.size wr W) (by rw [setRow_alloc _ _ _ _ _ rfl]; exact ⟨heap_alloc_new _ _, below_alloc (Below.refl _ _) (Nat.le_refl _) _⟩) ?_; rintro W1 hW1))
      have HRB := Lib.hid hW1.1
      have HP1 := Lib.hid (HP.out.later hW1.2)
      have HGL : Hid (w2.heap.size + 1 ≤ wr.heap.size ∧ ∀ g, vr.ownBlock = some g → g < wr.heap.size) := ⟨(Array.getElem?_eq_some_iff.1 HP.out.page).1, fun g hg => (HP.out.own.lt g hg).2⟩
      have HSQ : Hid (∀ W, Calls Tryd.prog 55 #[.agg pc, .int .i64 (kindI k)] W fun e w' => e = .returned (.int .i64 (seqOf k p.d)) ∧ Below W.heap.size W w') := fun W => by rw [← hpc]; exact rSeq_any k p W
      have HK : Hid (pc[0]? = some (.string ⟨p.d.key.toArray⟩) ∧ pc[1]? = some (.bool p.d.common)) := by show _ ∧ _; rw [← hpc]; exact ⟨rfl, rfl⟩
      generalize wr.heap.size = g18 at *
      clear hW1 hpc HP HSZ2 HC1
      go_wp2_with (refine wpList_load_row (by rfl) 36 _ (by rfl) g18 (by rfl) 36 pc (0, 0) _ (by exact HRB.out) Tryd.underlying36 rfl (by exact HSZ.out) ?_)
      refine (HSQ.out W1).mono ?_
      rintro e W2 ⟨rfl, hb2⟩
      have HRB2 : Hid (W2.heap[g18]? = some (.cells pc 36 (0, 0))) := (hb2.block _ (Array.getElem?_eq_some_iff.1 HRB.out).1).trans HRB.out
      have HP2 := Lib.hid (HP1.out.later hb2)
      have k0 : W2.cell? ⟨g18, 0, none⟩ = some (.string ⟨p.d.key.toArray⟩) := cell_at HRB2.out HK.out.1
      have k1 : W2.cell? ⟨g18, 1, none⟩ = some (.bool p.d.common) := cell_at HRB2.out HK.out.2
      clear HRB HP1 hb2 W1
      go_upto_region 10 with (fail)
      go_cut [63] (fun s63 wx => ∃ c : Bool, s63 = .bool c ∧ wx = W2 ∧ Hid (numAsked k after number p.d = c))
      case first =>
        cases k with
        | objs =>
          have HA : Hid (numAsked .objs after number p.d = false) := by show _ = _; simp [numAsked]
          simp only [kindI]
          go_wp2_with fail
          go_meet
          case rel => exact ⟨false, rfl, rfl, HA.out⟩
        | vers =>
          simp only [kindI]
          by_cases hn : 0 < number
          · cases hcm : p.d.common with
            | true =>
              have HA : Hid (numAsked .vers after number p.d = false) := by show _ = _; simp [numAsked, hcm]
              rw [hcm] at k1
              go_wp2_with fail
              go_meet
              case rel => exact ⟨false, rfl, rfl, HA.out⟩
            | false =>
              rw [hcm] at k1
              by_cases hka : p.d.key = after
              · have HA : Hid (numAsked .vers after number p.d = true) := by show _ = _; simp [numAsked, hcm, hn, hka]
                rw [hka] at k0
                go_wp2_with fail
                go_meet
                case rel => exact ⟨true, rfl, rfl, HA.out⟩
              · have HA : Hid (numAsked .vers after number p.d = false) := by show _ = _; simp [numAsked, hka]
                have hkb : (p.d.key == after) = false := beq_eq_false_iff_ne.2 hka
                go_wp2_with fail
                go_meet
                case rel => exact ⟨false, rfl, rfl, HA.out⟩
          · have HA : Hid (numAsked .vers after number p.d = false) := by show _ = _; simp [numAsked, hn]
            go_wp2_with fail
            go_meet
            case rel => exact ⟨false, rfl, rfl, HA.out⟩
        | upls =>
          simp only [kindI]
          by_cases hn : 0 < number
          · cases hcm : p.d.common with
            | true =>
              have HA : Hid (numAsked .upls after number p.d = false) := by show _ = _; simp [numAsked, hcm]
              rw [hcm] at k1
              go_wp2_with fail
              go_meet
              case rel => exact ⟨false, rfl, rfl, HA.out⟩
            | false =>
              rw [hcm] at k1
              by_cases hka : p.d.key = after
              · have HA : Hid (numAsked .upls after number p.d = true) := by show _ = _; simp [numAsked, hcm, hn, hka]
                rw [hka] at k0
                go_wp2_with fail
                go_meet
                case rel => exact ⟨true, rfl, rfl, HA.out⟩
              · have HA : Hid (numAsked .upls after number p.d = false) := by show _ = _; simp [numAsked, hka]
                have hkb : (p.d.key == after) = false := beq_eq_false_iff_ne.2 hka
                go_wp2_with fail
                go_meet
                case rel => exact ⟨false, rfl, rfl, HA.out⟩
          · have HA : Hid (numAsked .upls after number p.d = false) := by show _ = _; simp [numAsked, hn]
            go_wp2_with fail
            go_meet
            case rel => exact ⟨false, rfl, rfl, HA.out⟩
      case rest =>
        obtain ⟨c, rfl, rfl, HA⟩ := hcut
        go_upto_if 63 with (fail)
        go_cut [20] (fun s20 wx => s20 = .bool (rBeyond k after number p.d) ∧ wx = wc)
        case first =>
          cases c with
          | false =>
            have HV := Lib.hid (numAsked_false HA.out)
            go_wp2_with fail
            go_meet
            case rel => exact ⟨by rw [HV.out, ← Bool.not_or, not_le_iff], rfl⟩
          | true =>
            have HV := Lib.hid (numAsked_true HA.out)
            cases k with
            | objs => exact absurd HA.out (by simp [numAsked])
            | vers =>
              simp only [kindI]
              by_cases hs : seqOf .vers p.d < number
              · have HB2 : Hid (behindN .vers (seqOf .vers p.d) number = true) := by show _ = _; simp [behindN, hs]
                go_wp2_with fail
                go_meet
                case rel => exact ⟨by rw [HV.out, HB2.out], rfl⟩
              · have HB2 : Hid (behindN .vers (seqOf .vers p.d) number = false) := by show _ = _; simp [behindN, hs]
                go_wp2_with fail
                go_meet
                case rel => exact ⟨by rw [HV.out, HB2.out], rfl⟩
            | upls =>
              simp only [kindI]
              by_cases hs : number < seqOf .upls p.d
              · have HB2 : Hid (behindN .upls (seqOf .upls p.d) number = true) := by show _ = _; simp [behindN, hs]
                go_wp2_with fail
                go_meet
                case rel => exact ⟨by rw [HV.out, HB2.out], rfl⟩
              · have HB2 : Hid (behindN .upls (seqOf .upls p.d) number = false) := by show _ = _; simp [behindN, hs]
                go_wp2_with fail
                go_meet
                case rel => exact ⟨by rw [HV.out, HB2.out], rfl⟩
        case rest =>
          obtain ⟨rfl, rfl⟩ := hcut
          clear HA
          cases hby : rBeyond k after number p.d with
          | false =>
            have HS : Hid (pageStep k after number M pd p.d = pd) := by show _ = _; unfold pageStep; rw [← rBeyond_eq HK0.out, hby]; rfl
            clear hby
            go_wp2_with fail
            go_roundg (es.length - (i + 1))
            case measure => omega
            case rel => exact ⟨i + 1, pd, vr, qs, by omega, Nat.le_refl _, vnext, HP2.out, (HFD2.out.trans HS.out).symm, HST.out⟩
          | true =>
            have HBY : Hid (beyond k after number p.d = true) := (rBeyond_eq HK0.out _).symm.trans hby
            clear hby
            obtain ⟨ar, cr, rfl⟩ := own_form HP2.out.own
            have c0 : wc.cell? ⟨w2.heap.size, 0, none⟩ = some (.slice ar qs.length cr) := cell_at HP2.out.page rfl
            have c1 : wc.cell? ⟨w2.heap.size, 1, none⟩ = some (.bool pd.more) := cell_at HP2.out.page rfl
            have hql : qs.length = pd.rows.length := by rw [← HP2.out.says, List.length_map]
            have hqM : qs.length ≤ M := by rw [hql]; exact HST.out.len
            by_cases hlM : qs.length < M
            · have hlz : (qs.length : Int) < (M : Int) := by omega
              have HS : Hid (pageStep k after number M pd p.d = { pd with rows := pd.rows ++ [p.d] }) := by show _ = _; unfold pageStep; rw [HBY.out]; simp only [Bool.not_true, Bool.false_eq_true, if_false]; rw [if_pos (by omega)]
              clear c1 hql
              have hqN : qs.length ≤ 1000 := by omega
              have HONM := Lib.hid ((HR.out.rows p HPM.out).one_mem)
              go_wp2_with (first
                | (refine wpList_load_row (by rfl) 36 _ (by rfl) g18 (by rfl) 36 #[.string ⟨p.d.key.toArray⟩, .bool p.d.common, .bool p.d.latest, .int .i64 p.d.ver.seq, .bool p.d.ver.null, .bool p.d.ver.marker, .string ⟨p.d.ver.etag.toArray⟩, .string ⟨p.d.ver.type.toArray⟩, .int .i64 p.d.ver.size, .int .i64 p.d.ver.when_, p.vb, .int .i64 p.d.upl.seq, .string ⟨p.d.upl.bucket.toArray⟩, .string ⟨p.d.upl.key.toArray⟩, .string ⟨p.d.upl.type.toArray⟩, .string ⟨p.d.upl.owner.toArray⟩, .int .i64 p.d.upl.when_, p.vp] (0, 0) _ (by have := HRB2.out; rw [← HPC.out] at this; exact this) Tryd.underlying36 rfl (by kernel_rfl) ?_)
                | (at_builtin; refine wpList_append_own _ rfl _ _ 22 rfl (w2.heap.size + 1) 36 i0 _ 18 216 Tryd.underlying22 hi0 hz0 hz1 hz2 rfl (by decide) _ _ _ rfl (own_later HP2.out.own (below_alloc (Below.refl _ _) (Nat.le_refl _) _)) ⟨wc.heap.size, 0, none⟩ 1 1 p.cells rfl rfl ?c1 ?c2 ?c3 ?c4 ?c5 ?_))
              case c1 => exact fun j u hj => cells_new _ _ _ _ _ hj
              case c2 => exact HONM.out
              case c3 => simp only [maxLen]; omega
              case c4 => omega
              case c5 => have := (Array.getElem?_eq_some_iff.1 HP2.out.page).1; simp; omega
              intro v' w7 hown' hgrow _
              obtain ⟨g7, cap7, rfl, -, -⟩ := hown'.form (by omega)
              have HPU := Lib.hid ((HP2.out.later (below_alloc (Below.refl _ _) (Nat.le_refl _) _)).push HPM.out hown' hgrow (new := partSet (pgC (.slice ar qs.length cr) pd) 0 [.slice (some ⟨g7, 0, none⟩) (qs.length + 1) cap7]) rfl)
              clear hown' hgrow
              go_wp2_with (refine wpList_store_cellN (by rfl) 22 _ _ (by rfl) w2.heap.size 0 (.slice (some ⟨g7, 0, none⟩) (qs.length + 1) cap7) (by rfl) (by rfl) (by rfl) 26 _ (by exact HPU.out.1) (by exact Nat.le_of_ble_eq_true rfl) (by kernel_rfl) (fun W => PgR w2 W w2.heap.size es { pd with rows := pd.rows ++ [p.d] } (.slice (some ⟨g7, 0, none⟩) (qs.length + 1) cap7) (qs ++ [p])) (by exact HPU.out.2) ?_; clear HPU; rintro W8 HP8)
              have HP8 := Lib.hid HP8
              go_roundg (es.length - (i + 1))
              case measure => omega
              case rel => exact ⟨i + 1, _, _, _, by omega, Nat.le_refl _, vnext, HP8.out, (HFD2.out.trans HS.out).symm, by have := HST.out.step (k := k) (after := after) (number := number) p.d; rw [HS.out] at this; exact this⟩
            · obtain rfl : M = qs.length := by omega
              have HML : Hid (¬ pd.rows.length < qs.length) := by show ¬ _; omega
              by_cases hM0 : qs.length = 0
              · have HS : Hid (pageStep k after number qs.length pd p.d = pd) := by show _ = _; unfold pageStep; rw [HBY.out]; simp only [Bool.not_true, Bool.false_eq_true, if_false]; rw [if_neg HML.out, if_neg (by omega)]
                have hMz : (qs.length : Int) = 0 := by omega
                clear c1 hql
                go_wp2_with fail
                go_roundg (es.length - (i + 1))
                case measure => omega
                case rel => exact ⟨i + 1, pd, _, qs, by omega, Nat.le_refl _, vnext, HP2.out, (HFD2.out.trans HS.out).symm, HST.out⟩
              · have hM1 : (0 : Int) < (qs.length : Int) := by omega
                cases hmo : pd.more with
                | true =>
                  have HS : Hid (pageStep k after number qs.length pd p.d = pd) := by show _ = _; unfold pageStep; rw [HBY.out]; simp only [Bool.not_true, Bool.false_eq_true, if_false]; rw [if_neg HML.out, if_neg (by simp [hmo])]
                  rw [hmo] at c1
                  clear hql hmo
                  go_wp2_with fail
                  go_roundg (es.length - (i + 1))
                  case measure => omega
                  case rel => exact ⟨i + 1, pd, _, qs, by omega, Nat.le_refl _, vnext, HP2.out, (HFD2.out.trans HS.out).symm, HST.out⟩
                | false =>
                  obtain ⟨N, hN⟩ : ∃ N, qs.length = N + 1 := ⟨qs.length - 1, by omega⟩
                  obtain ⟨q, hiq⟩ : ∃ q, qs[N]? = some q := ⟨_, List.getElem?_eq_getElem (by omega)⟩
                  have HQM := Lib.hid (HP2.out.mem q (List.mem_of_getElem? hiq))
                  have HS : Hid (pageStep k after number qs.length pd p.d = ⟨pd.rows, true, q.d.key, if q.d.common then 0 else seqOf k q.d⟩) := by
                    show _ = _
                    unfold pageStep
                    rw [HBY.out]
                    simp only [Bool.not_true, Bool.false_eq_true, if_false]
                    rw [if_neg HML.out, if_pos ⟨by omega, hmo⟩, ← HP2.out.says, last_get hN hiq]
                  have HZE := Lib.hid (HST.out.more hmo)
                  obtain ⟨b2, o2, rfl, hcq⟩ := HP2.out.at (by omega) hiq
                  have HC2 : Hid (wc.rangeAt b2 (o2 + N * 18) q.cells) := hcq
                  have hNz : (qs.length : Int) - 1 = (N : Int) := by omega
                  have hNl : (N : Int) < (qs.length : Int) := by omega
                  have hNn : N < qs.length := by omega
                  rw [hmo] at c1
                  clear hql hmo hcq hiq hN
                  go_upto_region 17 with (refine wpList_store_cellN (by rfl) 4 _ _ (by rfl) w2.heap.size 1 (.bool true) (by rfl) (by rfl) (by rfl) 26 _ (by exact HP2.out.page) (by exact Nat.le_of_ble_eq_true rfl) (by kernel_rfl) (fun W => PgR w2 W w2.heap.size es { pd with more := true } (.slice (some ⟨b2, o2, none⟩) qs.length cr) qs ∧ W.rangeAt b2 (o2 + N * 18) q.cells) ⟨HP2.out.set (by rfl) rfl, fun j u hj => by rw [World.cell?_of_block (w := wc) (setRow_other _ _ _ _ (PgR.ne (some ⟨b2, o2, none⟩) rfl HP2.out))]; exact HC2.out j u hj⟩ ?_; clear c0 c1; rintro W3 hW3)
                  have HP3 := Lib.hid hW3.1
                  have HC3 := Lib.hid hW3.2
                  have c0 : W3.cell? ⟨w2.heap.size, 0, none⟩ = some (.slice (some ⟨b2, o2, none⟩) qs.length cr) := cell_at hW3.1.page rfl
                  obtain ⟨qc, hqc⟩ : ∃ qc, q.cells.toArray = qc := ⟨_, rfl⟩
                  have HQSZ : Hid ((Tryd.prog.info? 36).map (·.size) = some qc.size) := by show _ = _; rw [← hqc]; rfl
                  have HQSZ2 : Hid (rowZC.size = qc.size) := by show _ = _; rw [← hqc]; rfl
                  have HQONE : Hid (qc.all (·.oneCell') = true) := by show _ = _; rw [← hqc, List.all_toArray, List.all_eq_true]; exact (HR.out.rows q HQM.out).one_mem
                  have HQSQ : Hid (∀ W, Calls Tryd.prog 55 #[.agg qc, .int .i64 (kindI k)] W fun e w' => e = .returned (.int .i64 (seqOf k q.d)) ∧ Below W.heap.size W w') := fun W => by rw [← hqc]; exact rSeq_any k q W
                  have HQK : Hid (qc[0]? = some (.string ⟨q.d.key.toArray⟩) ∧ qc[1]? = some (.bool q.d.common)) := by show _ ∧ _; rw [← hqc]; exact ⟨rfl, rfl⟩
                  have hg3 := (Array.getElem?_eq_some_iff.1 hW3.1.page).1
                  clear hW3 HP2 HC2 HRB2 k0 k1
                  go_upto_region 18 with (first
                    | (refine wpList_load_mid (by rfl) 36 _ (by rfl) b2 (o2 + N * 18) (by rfl) q.cells _ HC3.out Tryd.underlying36 rfl (by rfl) ?_; rw [hqc])
                    | (refine wpList_store_rowN (by rfl) 36 _ _ (by rfl) W3.heap.size qc (by rfl) (by rfl) 36 rowZC (by exact heap_alloc_new _ _) (by exact HQSZ.out) (by exact HQSZ2.out) (by exact HQONE.out) (fun W => W.heap[W3.heap.size]? = some (.cells qc 36 (0, 0)) ∧ Below W3.heap.size W3 W) (by rw [setRow_alloc _ _ _ _ _ rfl]; exact ⟨heap_alloc_new _ _, below_alloc (Below.refl _ _) (Nat.le_refl _) _⟩) ?_; rintro W4 hW4))
                  have HP4 := Lib.hid (HP3.out.later hW4.2)
                  have k0 : W4.cell? ⟨W3.heap.size, 0, none⟩ = some (.string ⟨q.d.key.toArray⟩) := cell_at hW4.1 HQK.out.1
                  have HR4 := Lib.hid hW4.1
                  generalize W3.heap.size = g21 at *
                  clear hW4 hqc c0 HP3 HC3
                  go_upto_region 19 with (refine wpList_store_cellN (by rfl) 9 _ _ (by rfl) w2.heap.size 2 (.string ⟨q.d.key.toArray⟩) (by rfl) (by rfl) (by rfl) 26 _ (by exact HP4.out.page) (by exact Nat.le_of_ble_eq_true rfl) (by kernel_rfl) (fun W => PgR w2 W w2.heap.size es { pd with more := true, next := q.d.key } (.slice (some ⟨b2, o2, none⟩) qs.length cr) qs ∧ W.heap[g21]? = some (.cells qc 36 (0, 0))) ⟨HP4.out.set (by rfl) rfl, (setRow_other _ _ _ _ (by omega)).trans HR4.out⟩ ?_; clear k0; rintro W5 hW5)
                  have HP5 := Lib.hid hW5.1
                  have HR5 := Lib.hid hW5.2
                  have k1 : W5.cell? ⟨g21, 1, none⟩ = some (.bool q.d.common) := cell_at hW5.2 HQK.out.2
                  clear hW5 HP4 HR4
                  cases hqm : q.d.common with
                  | true =>
                    rw [hqm] at k1
                    have HS2 : Hid (pageStep k after number qs.length pd p.d = { pd with more := true, next := q.d.key }) := by show _ = _; rw [HS.out, hqm, if_pos rfl, ← HZE.out.2]
                    clear hqm
                    go_wp2_with fail
                    go_roundg (es.length - (i + 1))
                    case measure => omega
                    case rel => exact ⟨i + 1, _, _, qs, by omega, Nat.le_refl _, vnext, HP5.out, (HFD2.out.trans HS2.out).symm, by have := HST.out.step (k := k) (after := after) (number := number) p.d; rw [HS2.out] at this; exact this⟩
                  | false =>
                    rw [hqm] at k1
                    have HS2 : Hid (pageStep k after number qs.length pd p.d = ⟨pd.rows, true, q.d.key, seqOf k q.d⟩) := by show _ = _; rw [HS.out, hqm]; rfl
                    clear hqm
                    go_wp2_with (refine wpList_load_row (by rfl) 36 _ (by rfl) g21 (by rfl) 36 qc (0, 0) _ (by exact HR5.out) Tryd.underlying36 rfl (by exact HQSZ.out) ?_)
                    refine (HQSQ.out _).mono ?_
                    rintro e W6 ⟨rfl, hb6⟩
                    have HP6 := Lib.hid (HP5.out.later hb6)
                    clear hb6 k1
                    go_wp2_with (refine wpList_store_cellN (by rfl) 3 _ _ (by rfl) w2.heap.size 3 (.int .i64 (seqOf k q.d)) (by rfl) (by rfl) (by rfl) 26 _ (by exact HP6.out.page) (by exact Nat.le_of_ble_eq_true rfl) (by kernel_rfl) (fun W => PgR w2 W w2.heap.size es ⟨pd.rows, true, q.d.key, seqOf k q.d⟩ (.slice (some ⟨b2, o2, none⟩) qs.length cr) qs) (HP6.out.set (by rfl) rfl) ?_; rintro W7 HP7)
                    have HP7 := Lib.hid HP7
                    go_roundg (es.length - (i + 1))
                    case measure => omega
                    case rel => exact ⟨i + 1, _, _, qs, by omega, Nat.le_refl _, vnext, HP7.out, (HFD2.out.trans HS2.out).symm, by have := HST.out.step (k := k) (after := after) (number := number) p.d; rw [HS2.out] at this; exact this⟩
    · obtain rfl : i = es.length := by omega
      have HPD : Hid (pd = E.foldl (pageStep k after number M) pdZ) := by
        show _ = _
        conv => lhs; rw [HFD.out]
        rw [List.take_of_length_le (by omega)]
      clear HFD
      go_wp2_with (first
        | (refine wpList_load_row (by rfl) 26 _ (by rfl) w2.heap.size (by rfl) 26 (pgC vr pd) (0, 0) _ (by exact HP.out.page) Tryd.underlying26 rfl (by kernel_rfl) ?_)
        | (refine wpList_store_row (by rfl) 26 _ _ (by rfl) w.heap.size (pgC vr pd) (by rfl) (by rfl) 26 pageZC (by exact (HP.out.below.block _ (Array.getElem?_eq_some_iff.1 HGR.out).1).trans HGR.out) (by kernel_rfl) (by rfl) (by exact HP.out.one) ?_))
      refine bodyPost_ret (results_cell_row rfl _ _ w.heap.size 26 _ _ _ rfl (setRow_heap _ _ _ _ _ _ ((HP.out.below.block _ (Array.getElem?_eq_some_iff.1 HGR.out).1).trans HGR.out)) Tryd.underlying26 rfl (by kernel_rfl)) rfl ?_
      have hg := (Array.getElem?_eq_some_iff.1 HGR.out).1
      rw [← HPD.out]
      refine ⟨vr, qs, rfl, HP.out.says, ⟨own_base (own_set HP.out.own _ (by omega)) (by omega), fun q hq => ?_⟩, below_one_row _ _ _ _ _ (HB.out.trans (HP.out.below.mono HB.out.size)) (Nat.le_refl _)⟩
      have hq2 := ((HR.out.rows q (HP.out.mem q hq)).later HP.out.below).base (base' := w.heap.size + 1) (by simp)
      exact (hq2.kept fun g h1 h2 => setRow_other _ _ _ _ (by rcases h1 with h1 | h1; exact Nat.ne_of_gt (hq2.blobs.lt g h1).1; exact Nat.ne_of_gt (hq2.parts.lt g h1).1)).base (Nat.le_succ _)
end Go.Proofs.YtgklbmcnpnmkkaaDoor
