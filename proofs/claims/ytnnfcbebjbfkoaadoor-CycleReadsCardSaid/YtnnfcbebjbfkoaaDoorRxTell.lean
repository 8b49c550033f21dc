/-
  storehouseref22.Tell: the walk.
-/
import Derived.Test.YtnnfcbebjbfkoaaDoorRxTell1
import Derived.Deep.RegionLaw
import Derived.Deep.DeepCutAuto
import Derived.Deep.AppendLies
namespace Go.Proofs.YtnnfcbebjbfkoaaDoor
open Go.RowKit Go.PlainAid

/-- what holds within a round: the rule's element, its kids so far -/
structure Inw (wo wc : World) (ks : List Tree) (v : Value) : Prop where
  below : Below wo.heap.size wo wc
  size : wo.heap.size + 1 ≤ wc.heap.size
  grow : Grow wc (wo.heap.size + 1) wo.heap.size ⟨tRule.toArray⟩ ks v

theorem Inw.later {wo wc w' : World} {ks : List Tree} {v : Value} (h : Inw wo wc ks v) (hb : Below wc.heap.size wc w') : Inw wo w' ks v :=
  ⟨h.below.trans (hb.mono (by have := h.size; omega)), Nat.le_trans h.size hb.size, h.grow.later hb⟩

theorem Inw.pushed {wo w1 w2 wa wf : World} {ks ks' : List Tree} {v v' : Value} (h : Inw wo w1 ks v) (hb : Below w1.heap.size w1 w2) (ha : Below w2.heap.size w2 wa)
    (hp : Grow wf (wo.heap.size + 1) wo.heap.size ⟨tRule.toArray⟩ ks' v' ∧ Chg wa wf (fun b => b = wo.heap.size ∨ some b = v.ownBlock)) : Inw wo wf ks' v' := by
  have hs := h.size
  have h1 := hb.size
  have h2 := ha.size
  have h3 := hp.2.size
  have hm : ∀ k, (k = wo.heap.size ∨ some k = v.ownBlock) → wo.heap.size ≤ k := fun k hk => by
    rcases hk with e | e
    · omega
    · have := (h.grow.own_lt e.symm).1; omega
  exact ⟨((h.below.trans (hb.mono (by omega))).trans (ha.mono (by omega))).trans (hp.2.below (by omega) hm), by omega, hp.1⟩

theorem pushed_below {w0 w1 w2 wa wf : World} {B kb : Nat} {v : Value} (h1 : B ≤ w1.heap.size) (h0 : Below B w0 w1) (hb : Below w1.heap.size w1 w2) (ha : Below w2.heap.size w2 wa)
    (hc : Chg wa wf (fun b => b = kb ∨ some b = v.ownBlock)) (hk : B ≤ kb) (hv : ∀ g, v.ownBlock = some g → B ≤ g) : Below B w0 wf := by
  have h2 := hb.size
  have h3 := ha.size
  exact ((h0.trans (hb.mono (by omega))).trans (ha.mono (by omega))).trans (hc.below (by omega) (fun k e => by
    rcases e with e | e
    · omega
    · exact hv k e.symm))

set_option maxHeartbeats 40000000 in
set_option maxRecDepth 100000 in
theorem rtell_walk (l : List RuleV) (lv : Value) (w : World) (hL : RulesIn w lv l) (hok : ∀ r ∈ l, IntOK r.days ∧ IntOK r.nonc ∧ IntOK r.abort) (hsz : ∀ r ∈ l, r.id.size ≤ maxRead ∧ r.pre.size ≤ maxRead) (hl : l.length ≤ 2199023255552) :
    Calls Tryd.prog 16 #[lv] w fun e w' => ∃ x y z, e = .returned (.agg #[x, y, z]) ∧ TreeIn w' (tellT l) x y z ∧ Below w.heap.size w w' := by
  obtain ⟨al, cl, rfl⟩ : ∃ a c, lv = .slice a l.length c := by obtain ⟨a, c, h, _⟩ := hL; exact ⟨a, c, h⟩
  obtain ⟨i0, hi, hz0, hz1, hz2⟩ := info_elem
  have HL := Lib.hid hL
  have HOK := Lib.hid hok
  have HSZ := Lib.hid hsz
  clear hL hok hsz
  go_enter Tryd.func16, Tryd.ntmps16
  go_wp2
  go_loopg [4, 5, 6, 7] l.length (fun gg s4 _ _ _ wr => ∃ (i : Nat) (v : Value), i ≤ l.length ∧ l.length - i ≤ gg ∧ s4 = .int .i64 i ∧ Hid (Grow wr (w.heap.size + 2) (w.heap.size + 1) ⟨tConf.toArray⟩ ((l.take i).map ruleT) v) ∧
    Hid (Below w.heap.size w wr ∧ w.heap.size + 2 ≤ wr.heap.size ∧ wr.heap[w.heap.size]? = some (.cells #[.string ⟨#[]⟩, .string ⟨#[]⟩, .slice none 0 0] 24 (0, 0))))
  case atStart =>
    refine ⟨0, .slice none 0 0, Nat.zero_le _, by omega, rfl, (show Hid _ from ?_), (show Hid _ from ⟨below_alloc (below_alloc (Below.refl _ _) (Nat.le_refl _) _) (Nat.le_refl _) _, by simp, ?_⟩)⟩
    · exact ⟨heap_at _ _ (by simp), by omega, [], fun _ => False, World.ownsRow_nil _ _ _ _, rfl, fun b h => h.elim⟩
    · rw [Below.heap_alloc _ _ _ (by simp)]; exact heap_at _ _ rfl
  case round =>
    obtain ⟨i, ve, hin, hgg, rfl, HGr, HB⟩ := hrel
    by_cases hlt : i < l.length
    · obtain ⟨r, HR⟩ : ∃ r, Hid (l[i]? = some r) := ⟨_, List.getElem?_eq_getElem hlt⟩
      obtain ⟨b, off, hal, hcells⟩ : ∃ b off, al = some ⟨b, off, none⟩ ∧ ∀ j u, r.cells[j]? = some u → wr.cell? ⟨b, off + i * 6 + j, none⟩ = some u := by
        obtain ⟨a', c', h1, _, h2⟩ := HL.out.later HB.out.1
        obtain ⟨b, off, h3, h4⟩ := h2 (by omega)
        simp only [Value.slice.injEq] at h1
        exact ⟨b, off, h1.1.trans h3, h4 i r HR.out⟩
      subst hal
      have hltz : (i : Int) < (l.length : Int) := by omega
      obtain ⟨rid, rpre, ron, rd, rn, ra⟩ := r
      have k0 := hcells 0 _ rfl
      simp only [Nat.add_zero] at k0
      have HKS : Hid (∀ W, Below wr.heap.size wr W → W.cell? ⟨b, off + i * 6, none⟩ = some (.string rid) ∧ W.cell? ⟨b, off + i * 6 + 1, none⟩ = some (.string rpre) ∧ W.cell? ⟨b, off + i * 6 + 2, none⟩ = some (.bool ron) ∧
          W.cell? ⟨b, off + i * 6 + 3, none⟩ = some (.int .i64 rd) ∧ W.cell? ⟨b, off + i * 6 + 4, none⟩ = some (.int .i64 rn) ∧ W.cell? ⟨b, off + i * 6 + 5, none⟩ = some (.int .i64 ra)) :=
        fun W hW => ⟨cell_later hW k0, cell_later hW (hcells 1 _ rfl), cell_later hW (hcells 2 _ rfl), cell_later hW (hcells 3 _ rfl), cell_later hW (hcells 4 _ rfl), cell_later hW (hcells 5 _ rfl)⟩
      have hbl := World.block_lt_of_cell? wr _ k0
      simp only at hbl
      obtain ⟨wo, rfl⟩ : ∃ wo : World, wo = wr := ⟨_, rfl⟩
      clear hcells
      have HRid : Hid (rid.size ≤ maxRead ∧ rpre.size ≤ maxRead) := HSZ.out _ (List.mem_of_getElem? HR.out)
      have HInts : Hid (IntOK rd ∧ IntOK rn ∧ IntOK ra) := HOK.out _ (List.mem_of_getElem? HR.out)
      have HI0 : Hid (Inw wo (wo.alloc (.cells #[.string ⟨#[82, 117, 108, 101]⟩, .string ⟨#[]⟩, .slice none 0 0] 24)) [] (.slice none 0 0)) :=
        ⟨below_alloc (Below.refl _ _) (Nat.le_refl _) _, by simp, ⟨heap_at _ _ rfl, by omega, [], fun _ => False, World.ownsRow_nil _ _ _ _, rfl, fun b h => h.elim⟩⟩
      go_upto_if 21 with (fail)
      go_cut [] (fun w1 => ∃ v1, Hid (Inw wo w1 (idT ⟨rid, rpre, ron, rd, rn, ra⟩) v1))
      case first =>
        cases h0 : (!rid.toList.isEmpty)
        · have HI1 : Hid (idT ⟨rid, rpre, ron, rd, rn, ra⟩ = []) := by show _ = _; unfold idT; rw [if_pos (by simpa using h0)]
          clear h0
          go_wp2
          go_meet
          case rel => exact ⟨_, by rw [HI1.out]; exact HI0.out⟩
        · have HI1 : Hid (idT ⟨rid, rpre, ron, rd, rn, ra⟩ = [leafT tID rid]) := by show _ = _; unfold idT; rw [if_neg (by simpa using h0)]
          clear h0
          generalize wo.alloc (.cells #[.string ⟨#[82, 117, 108, 101]⟩, .string ⟨#[]⟩, .slice none 0 0] 24) = w1 at HI0 ⊢
          obtain ⟨k0', _⟩ := HKS.out w1 HI0.out.below
          have hs1 := HI0.out.size
          go_wp2_with fail
          have c0 := cell_of_heap (x := 0) HI0.out.grow.box
          have c1 := cell_of_heap (x := 1) HI0.out.grow.box
          have c2 := cell_of_heap (x := 2) HI0.out.grow.box
          have f2 := free_of_heap (x := 2) HI0.out.grow.box
          simp at c0 c1 c2
          have hkb := HI0.out.grow.kb_lt
          go_region_law (first
            | (rw [if_pos (by kernel_rfl)]
               go_wp2_with fail
               refine (rone_any _ _ _).mono ?_
               rintro e wC ⟨rfl, hb2⟩
               have B2 : Hid (Below w1.heap.size w1 wC) := (Below.refl _ _).drew.trans hb2
               have G2 := Lib.hid (Grow.later HI0.out.grow B2.out)
               obtain ⟨xs, ok, ho, hr, hok⟩ := G2.out.row
               have HO := Lib.hid ho
               have HRW := Lib.hid hr
               have HOW := Lib.hid hok
               have r0 := cell_later B2.out c0
               have r1 := cell_later B2.out c1
               have r2 := cell_later B2.out c2
               have pA : (wC.alloc (.cells #[.string ⟨#[73, 68]⟩, .string rid, .slice none 0 0] 24)).cell? ⟨wo.heap.size, 2, none⟩ = some (.slice none 0 0) := cell_past _ r2
               have rf : wC.frozen? ⟨wo.heap.size, 2, none⟩ = false := by rw [B2.out.frozen (by simpa using hkb)]; exact f2
               have hs2 := B2.out.size
               clear ho hr hok hb2
               go_wp2_with fail)
            | (refine step_append_lies _ (by rfl) _ _ _ (by rfl) (wo.heap.size + 1) 24 i0 _ 3 56 Tryd.underlying22 hi hz0 hz1 hz2 rfl (by decide) (.slice none 0 0) 0 xs (by rfl) (HO.out.alloc _) ⟨wC.heap.size, 0, none⟩ 1 1 [.string ⟨#[73, 68]⟩, .string rid, .slice none 0 0] (by rfl) (by rfl) (fun j u hj => cells_new _ _ _ _ _ (by simpa using hj)) (by simp [Value.oneCell']) (by decide) (by simp only [maxLen]; omega) (by omega) (by simp; omega) _ rfl ?_
               intro g cap wA hown hgr hat hlt3
               have hnv : some wo.heap.size ≠ Value.ownBlock (.slice none 0 0) := fun e => by have := (G2.out.own_lt e.symm).1; omega
               have hk2 : wo.heap.size < wC.heap.size := by omega
               have s2 : wA.cell? ⟨wo.heap.size, 2, none⟩ = some (.slice none 0 0) := hgr.cell (cell_past _ r2) hnv
               have sf : wA.frozen? ⟨wo.heap.size, 2, none⟩ = false := by rw [hgr.frozen_far _ (by simp; omega) hnv]; exact free_past _ hk2 rf
               have hah : Hid (Below wC.heap.size wC (wC.alloc (.cells #[.string ⟨#[73, 68]⟩, .string rid, .slice none 0 0] 24))) := below_alloc (Below.refl _ _) (Nat.le_refl _) _
               have HP := Lib.hid (Grow.push (cap := cap) (ks2 := [leafT tID rid]) (w' := wA.setCell ⟨wo.heap.size, 2, none⟩ (.slice (some ⟨g, 0, none⟩) (0 + 1) cap)) (G2.out.later hah.out)
                 (RowOf.kept (fun b hb _ => hah.out.block b hb) (fun _ _ h => h) HRW.out) (fun b hb => ⟨(HOW.out b hb).1, Nat.lt_of_lt_of_le (HOW.out b hb).2.1 hah.out.size, (HOW.out b hb).2.2⟩)
                 (RowOf.one (leaf_on tID rid (by decide) HRid.out.1)) (fun b (h : (fun _ => False) b) => h.elim) hown hgr hat hlt3 rfl)
               clear hown hgr hat hnv))
          all_goals (go_wp2; go_meet; case rel => exact ⟨_, by rw [HI1.out]; exact HI0.out.pushed B2.out hah.out HP.out⟩)
      case rest =>
        obtain ⟨v1, HI1⟩ := hcut
        obtain ⟨w1, rfl⟩ : ∃ w1 : World, w1 = wc := ⟨_, rfl⟩
        have hs1 := HI1.out.size
        obtain ⟨_, _, k2, _⟩ := HKS.out w1 HI1.out.below
        have hro : wo.heap.size < w1.heap.size := by omega
        have hbl1 : b < w1.heap.size := by omega
        obtain ⟨st, HST⟩ : ∃ st : ByteArray, Hid (st = ⟨(if ron then tEnabled else tDisabled).toArray⟩) := ⟨_, rfl⟩
        go_upto_if 37 with (fail)
        go_cut [6] (fun s6 w2 => s6 = .string st ∧ w2 = w1)
        case first =>
          cases ron
          · go_wp2
            go_meet
            case rel => exact ⟨by rw [HST.out]; rfl, rfl⟩
          · go_wp2
            go_meet
            case rel => exact ⟨by rw [HST.out]; rfl, rfl⟩
        case rest =>
          obtain ⟨rfl, rfl⟩ := hcut
          obtain ⟨_, k1, _⟩ := HKS.out wc HI1.out.below
          obtain ⟨w1, rfl⟩ : ∃ w1 : World, w1 = wc := ⟨_, rfl⟩
          have HF0 : Hid (Grow (w1.alloc (.cells #[.string ⟨#[70, 105, 108, 116, 101, 114]⟩, .string ⟨#[]⟩, .slice none 0 0] 24)) (w1.heap.size + 1) w1.heap.size ⟨tFilter.toArray⟩ [] (.slice none 0 0)) :=
            ⟨heap_at _ _ rfl, by omega, [], fun _ => False, World.ownsRow_nil _ _ _ _, rfl, fun b h => h.elim⟩
          have HBF : Hid (Below w1.heap.size w1 (w1.alloc (.cells #[.string ⟨#[70, 105, 108, 116, 101, 114]⟩, .string ⟨#[]⟩, .slice none 0 0] 24)) ∧ w1.heap.size + 1 ≤ (w1.alloc (.cells #[.string ⟨#[70, 105, 108, 116, 101, 114]⟩, .string ⟨#[]⟩, .slice none 0 0] 24)).heap.size) := ⟨below_alloc (Below.refl _ _) (Nat.le_refl _) _, by simp⟩
          go_upto_if 44 with (fail)
          go_cut [] (fun w2 => ∃ vf, Hid (Inw wo w2 (idT ⟨rid, rpre, ron, rd, rn, ra⟩) v1) ∧ Hid (Grow w2 (w1.heap.size + 1) w1.heap.size ⟨tFilter.toArray⟩ (if rpre.toList = [] then [] else [leafT tPrefix rpre]) vf))
          case first =>
            cases h0 : (!rpre.toList.isEmpty)
            · have HI2 : Hid ((if rpre.toList = [] then [] else [leafT tPrefix rpre]) = []) := by show _ = _; rw [if_pos (by simpa using h0)]
              clear h0
              go_wp2
              go_meet
              case rel => exact ⟨_, HI1.out.later HBF.out.1, by rw [HI2.out]; exact HF0.out⟩
            · have HI2 : Hid ((if rpre.toList = [] then [] else [leafT tPrefix rpre]) = [leafT tPrefix rpre]) := by show _ = _; rw [if_neg (by simpa using h0)]
              clear h0
              generalize w1.alloc (.cells #[.string ⟨#[70, 105, 108, 116, 101, 114]⟩, .string ⟨#[]⟩, .slice none 0 0] 24) = wa at HF0 HBF ⊢
              obtain ⟨_, k1', _⟩ := HKS.out wa (HI1.out.later HBF.out.1).below
              have hsa := HBF.out.2
              go_wp2_with fail
              have c0 := cell_of_heap (x := 0) HF0.out.box
              have c1 := cell_of_heap (x := 1) HF0.out.box
              have c2 := cell_of_heap (x := 2) HF0.out.box
              have f2 := free_of_heap (x := 2) HF0.out.box
              simp at c0 c1 c2
              have hkb := HF0.out.kb_lt
              go_region_law (first
                | (rw [if_pos (by kernel_rfl)]
                   go_wp2_with fail
                   refine (rone_any _ _ _).mono ?_
                   rintro e wC ⟨rfl, hb2⟩
                   have B2 : Hid (Below wa.heap.size wa wC) := (Below.refl _ _).drew.trans hb2
                   have G2 := Lib.hid (Grow.later HF0.out B2.out)
                   obtain ⟨xs, ok, ho, hr, hok⟩ := G2.out.row
                   have HO := Lib.hid ho
                   have HRW := Lib.hid hr
                   have HOW := Lib.hid hok
                   have r0 := cell_later B2.out c0
                   have r1 := cell_later B2.out c1
                   have r2 := cell_later B2.out c2
                   have pA : (wC.alloc (.cells #[.string ⟨#[80, 114, 101, 102, 105, 120]⟩, .string rpre, .slice none 0 0] 24)).cell? ⟨w1.heap.size, 2, none⟩ = some (.slice none 0 0) := cell_past _ r2
                   have rf : wC.frozen? ⟨w1.heap.size, 2, none⟩ = false := by rw [B2.out.frozen (by simpa using hkb)]; exact f2
                   have hs2 := B2.out.size
                   clear ho hr hok hb2
                   go_wp2_with fail)
                | (refine step_append_lies _ (by rfl) _ _ _ (by rfl) (w1.heap.size + 1) 24 i0 _ 3 56 Tryd.underlying22 hi hz0 hz1 hz2 rfl (by decide) (.slice none 0 0) 0 xs (by rfl) (HO.out.alloc _) ⟨wC.heap.size, 0, none⟩ 1 1 [.string ⟨#[80, 114, 101, 102, 105, 120]⟩, .string rpre, .slice none 0 0] (by rfl) (by rfl) (fun j u hj => cells_new _ _ _ _ _ (by simpa using hj)) (by simp [Value.oneCell']) (by decide) (by simp only [maxLen]; omega) (by omega) (by simp; omega) _ rfl ?_
                   intro g cap wA hown hgr hat hlt3
                   have hnv : some w1.heap.size ≠ Value.ownBlock (.slice none 0 0) := fun e => by have := (G2.out.own_lt e.symm).1; omega
                   have hk2 : w1.heap.size < wC.heap.size := by omega
                   have s2 : wA.cell? ⟨w1.heap.size, 2, none⟩ = some (.slice none 0 0) := hgr.cell (cell_past _ r2) hnv
                   have sf : wA.frozen? ⟨w1.heap.size, 2, none⟩ = false := by rw [hgr.frozen_far _ (by simp; omega) hnv]; exact free_past _ hk2 rf
                   have hah : Hid (Below wC.heap.size wC (wC.alloc (.cells #[.string ⟨#[80, 114, 101, 102, 105, 120]⟩, .string rpre, .slice none 0 0] 24))) := below_alloc (Below.refl _ _) (Nat.le_refl _) _
                   have HP := Lib.hid (Grow.push (cap := cap) (ks2 := [leafT tPrefix rpre]) (w' := wA.setCell ⟨w1.heap.size, 2, none⟩ (.slice (some ⟨g, 0, none⟩) (0 + 1) cap)) (G2.out.later hah.out)
                     (RowOf.kept (fun b hb _ => hah.out.block b hb) (fun _ _ h => h) HRW.out) (fun b hb => ⟨(HOW.out b hb).1, Nat.lt_of_lt_of_le (HOW.out b hb).2.1 hah.out.size, (HOW.out b hb).2.2⟩)
                     (RowOf.one (leaf_on tPrefix rpre (by decide) HRid.out.2)) (fun b (h : (fun _ => False) b) => h.elim) hown hgr hat hlt3 rfl)
                   clear hown hgr hat hnv))
              all_goals (go_wp2; go_meet; case rel => exact ⟨_, HI1.out.later (pushed_below (by omega) HBF.out.1 B2.out hah.out HP.out.2 (Nat.le_refl _) (fun g e => by cases e)), by rw [HI2.out]; exact HP.out.1⟩)
          case rest =>
            obtain ⟨vf, HI2, HF2⟩ := hcut
            obtain ⟨w2, rfl⟩ : ∃ w2 : World, w2 = wc := ⟨_, rfl⟩
            have HKL : Hid ((idT ⟨rid, rpre, ron, rd, rn, ra⟩).length ≤ 1) := by show _ ≤ _; unfold idT; split <;> simp
            obtain ⟨ks0, HK0⟩ : ∃ ks, Hid (ks = idT ⟨rid, rpre, ron, rd, rn, ra⟩) := ⟨_, rfl⟩
            rw [← HK0.out] at HI2 HKL
            have hvo : Hid (∀ g, v1.ownBlock = some g → g < w1.heap.size) := fun g hg => (HI1.out.grow.own_lt hg).2
            clear HI1
            obtain ⟨okf, htf, hokf⟩ := HF2.out.tree (by unfold maxRead; simp [ByteArray.size, tFilter]) (by split <;> simp)
            have HTF := Lib.hid htf
            have HOKF := Lib.hid hokf
            clear htf hokf
            go_upto_region 14 with (fail)
            go_cut [] (fun w3 => ∃ v3, Hid (Inw wo w3 (ks0 ++ [statusT ⟨rid, rpre, ron, rd, rn, ra⟩, filterT ⟨rid, rpre, ron, rd, rn, ra⟩]) v3))
            case first =>
              go_wp2_with fail
              have c0 := cell_of_heap (x := 0) HI2.out.grow.box
              have c1 := cell_of_heap (x := 1) HI2.out.grow.box
              have c2 := cell_of_heap (x := 2) HI2.out.grow.box
              have f2 := free_of_heap (x := 2) HI2.out.grow.box
              simp at c0 c1 c2
              have hkb := HI2.out.grow.kb_lt
              have p0 : w2.cell? ⟨w1.heap.size, 0, none⟩ = some (.string ⟨#[70, 105, 108, 116, 101, 114]⟩) := cell_of_heap (x := 0) HF2.out.box
              have p1 := cell_of_heap (x := 1) HF2.out.box
              have p2 := cell_of_heap (x := 2) HF2.out.box
              simp at p1 p2
              have hkl := HKL.out
              have hkf := HF2.out.kb_lt
              have hs2w := HI2.out.size
              have HST2 : Hid (∀ W, TreeOn W okf (statusT ⟨rid, rpre, ron, rd, rn, ra⟩) (.string ⟨#[83, 116, 97, 116, 117, 115]⟩) (.string st) (.slice none 0 0)) := fun W => by unfold statusT; rw [← HST.out]; exact leaf_on tStatus st (by decide) (by rw [HST.out]; unfold maxRead; cases ron <;> simp [ByteArray.size, tEnabled, tDisabled])
              go_region_law (first
                | (rw [if_pos (by kernel_rfl)]
                   go_wp2_with fail
                   refine (rone_any _ _ _).mono ?_
                   rintro e wC ⟨rfl, hb2⟩
                   have B2 : Hid (Below w2.heap.size w2 wC) := (Below.refl _ _).drew.trans hb2
                   have G2 := Lib.hid (Grow.later HI2.out.grow B2.out)
                   obtain ⟨xs, ok, ho, hr, hok⟩ := G2.out.row
                   have HO := Lib.hid ho
                   have HRW := Lib.hid hr
                   have HOW := Lib.hid hok
                   have r0 := cell_later B2.out c0
                   have r1 := cell_later B2.out c1
                   have r2 := cell_later B2.out c2
                   have pA : (wC.alloc (.cells #[.string ⟨#[83, 116, 97, 116, 117, 115]⟩, .string st, .slice none 0 0, .string ⟨#[70, 105, 108, 116, 101, 114]⟩, .string ⟨#[]⟩, vf] 24)).cell? ⟨wo.heap.size, 2, none⟩ = some v1 := cell_past _ r2
                   have rf : wC.frozen? ⟨wo.heap.size, 2, none⟩ = false := by rw [B2.out.frozen (by simpa using hkb)]; exact f2
                   have hs2 := B2.out.size
                   have q0 := cell_later B2.out p0
                   have q1 := cell_later B2.out p1
                   have q2 := cell_later B2.out p2
                   clear ho hr hok hb2
                   go_wp2_with fail)
                | (refine step_append_lies _ (by rfl) _ _ _ (by rfl) (wo.heap.size + 1) 24 i0 _ 3 56 Tryd.underlying22 hi hz0 hz1 hz2 rfl (by decide) v1 ks0.length xs (by rfl) (HO.out.alloc _) ⟨wC.heap.size, 0, none⟩ 2 2 [.string ⟨#[83, 116, 97, 116, 117, 115]⟩, .string st, .slice none 0 0, .string ⟨#[70, 105, 108, 116, 101, 114]⟩, .string ⟨#[]⟩, vf] (by rfl) (by rfl) (fun j u hj => cells_new _ _ _ _ _ (by simpa using hj)) (fun u hu => by simp at hu; rcases hu with rfl | rfl | rfl | rfl | rfl | rfl <;> first | rfl | exact HTF.out.oneCell.2.2) (by decide) (by simp only [maxLen]; omega) (by omega) (by simp; omega) _ rfl ?_
                   intro g cap wA hown hgr hat hlt3
                   have hnv : some wo.heap.size ≠ Value.ownBlock v1 := fun e => by have := (G2.out.own_lt e.symm).1; omega
                   have hk2 : wo.heap.size < wC.heap.size := by omega
                   have s2 : wA.cell? ⟨wo.heap.size, 2, none⟩ = some v1 := hgr.cell (cell_past _ r2) hnv
                   have sf : wA.frozen? ⟨wo.heap.size, 2, none⟩ = false := by rw [hgr.frozen_far _ (by simp; omega) hnv]; exact free_past _ hk2 rf
                   have hah : Hid (Below wC.heap.size wC (wC.alloc (.cells #[.string ⟨#[83, 116, 97, 116, 117, 115]⟩, .string st, .slice none 0 0, .string ⟨#[70, 105, 108, 116, 101, 114]⟩, .string ⟨#[]⟩, vf] 24))) := below_alloc (Below.refl _ _) (Nat.le_refl _) _
                   have HP := Lib.hid (Grow.push (cap := cap) (ks2 := [statusT ⟨rid, rpre, ron, rd, rn, ra⟩, filterT ⟨rid, rpre, ron, rd, rn, ra⟩]) (w' := wA.setCell ⟨wo.heap.size, 2, none⟩ (.slice (some ⟨g, 0, none⟩) (ks0.length + 2) cap)) (G2.out.later hah.out)
                     (RowOf.kept (fun b hb _ => hah.out.block b hb) (fun _ _ h => h) HRW.out) (fun b hb => ⟨(HOW.out b hb).1, Nat.lt_of_lt_of_le (HOW.out b hb).2.1 hah.out.size, (HOW.out b hb).2.2⟩)
                     (⟨_, _, _, _, rfl, HST2.out _, RowOf.one (TreeOn.kept (fun b hb _ => (B2.out.block b hb).symm ▸ hah.out.block b (by omega)) (fun _ _ h => h) _ _ _ _ HTF.out)⟩) (fun b hb => ⟨by have := (HOKF.out b hb).1; omega, by have := (HOKF.out b hb).2; have := hah.out.size; omega, fun e => by have := hvo.out b e.symm; have := (HOKF.out b hb).1; omega⟩) hown hgr hat hlt3 rfl)
                   clear hown hgr hat hnv))
              all_goals (go_wp2; go_meet; case rel => exact ⟨_, HI2.out.pushed B2.out hah.out HP.out⟩)
            case rest =>
              obtain ⟨v3, HI3⟩ := hcut
              obtain ⟨w3, rfl⟩ : ∃ w3 : World, w3 = wc := ⟨_, rfl⟩
              obtain ⟨ks3, HK3⟩ : ∃ ks, Hid (ks = ks0 ++ [statusT ⟨rid, rpre, ron, rd, rn, ra⟩, filterT ⟨rid, rpre, ron, rd, rn, ra⟩]) := ⟨_, rfl⟩
              have HL3 : Hid (ks3.length ≤ 3) := by show _ ≤ _; rw [HK3.out]; simp; exact HKL.out
              rw [← HK3.out] at HI3
              obtain ⟨_, _, _, k3, _, _⟩ := HKS.out w3 HI3.out.below
              have hsw3 := HI3.out.size
              have hbl3 : b < w3.heap.size := by omega
              go_upto_if 69 with (fail)
              go_cut [] (fun w4 => ∃ vn, Hid (Inw wo w4 (ks3 ++ daysT tExp tDays rd) vn))
              case first =>
                by_cases hn : 0 < rd
                · obtain ⟨n, rfl⟩ : ∃ n : Nat, rd = n := ⟨(rd).toNat, by omega⟩
                  have HDT : Hid (daysT tExp tDays n = [.node ⟨(tExp).toArray⟩ ⟨#[]⟩ [leafT tDays ⟨(Lib.itoa n).toArray⟩]]) := by show _ = _; unfold daysT; rw [if_pos hn]
                  have HN : Hid (n ≤ 9223372036854775807) := by have := HInts.out.1; unfold IntOK at this; show _ ≤ _; omega
                  go_wp2_with fail
                  have c0 := cell_of_heap (x := 0) HI3.out.grow.box
                  have c1 := cell_of_heap (x := 1) HI3.out.grow.box
                  have c2 := cell_of_heap (x := 2) HI3.out.grow.box
                  have f2 := free_of_heap (x := 2) HI3.out.grow.box
                  simp at c0 c1 c2
                  have hkb := HI3.out.grow.kb_lt
                  have hkl := HL3.out
                  go_region_law (first
                    | (rw [if_pos (by kernel_rfl)]
                       go_wp2_with fail
                       refine (around_any tExp tDays n _ (by decide) (by decide) HN.out).mono ?_
                       rintro e wC ⟨g0, rfl, hg1, hg2, htr, hb2⟩
                       have B2 : Hid (Below w3.heap.size w3 wC) := (Below.refl _ _).drew.trans hb2
                       have G2 := Lib.hid (Grow.later HI3.out.grow B2.out)
                       obtain ⟨xs, ok, ho, hr, hok⟩ := G2.out.row
                       have HO := Lib.hid ho
                       have HRW := Lib.hid hr
                       have HOW := Lib.hid hok
                       have r0 := cell_later B2.out c0
                       have r1 := cell_later B2.out c1
                       have r2 := cell_later B2.out c2
                       have pA : (wC.alloc (.cells #[.string ⟨(tExp).toArray⟩, .string ⟨#[]⟩, .slice (some ⟨g0, 0, none⟩) 1 1] 24)).cell? ⟨wo.heap.size, 2, none⟩ = some v3 := cell_past _ r2
                       have rf : wC.frozen? ⟨wo.heap.size, 2, none⟩ = false := by rw [B2.out.frozen (by simpa using hkb)]; exact f2
                       have hs2 := B2.out.size
                       have HTR := Lib.hid htr
                       have hg3 : w3.heap.size ≤ g0 := hg1
                       clear htr hg1
                       clear ho hr hok hb2
                       go_wp2_with fail)
                    | (refine step_append_lies _ (by rfl) _ _ _ (by rfl) (wo.heap.size + 1) 24 i0 _ 3 56 Tryd.underlying22 hi hz0 hz1 hz2 rfl (by decide) v3 ks3.length xs (by rfl) (HO.out.alloc _) ⟨wC.heap.size, 0, none⟩ 1 1 [.string ⟨(tExp).toArray⟩, .string ⟨#[]⟩, .slice (some ⟨g0, 0, none⟩) 1 1] (by rfl) (by rfl) (fun j u hj => cells_new _ _ _ _ _ (by simpa using hj)) (by simp [Value.oneCell']) (by decide) (by simp only [maxLen]; omega) (by omega) (by simp; omega) _ rfl ?_
                       intro g cap wA hown hgr hat hlt3
                       have hnv : some wo.heap.size ≠ Value.ownBlock v3 := fun e => by have := (G2.out.own_lt e.symm).1; omega
                       have hk2 : wo.heap.size < wC.heap.size := by omega
                       have s2 : wA.cell? ⟨wo.heap.size, 2, none⟩ = some v3 := hgr.cell (cell_past _ r2) hnv
                       have sf : wA.frozen? ⟨wo.heap.size, 2, none⟩ = false := by rw [hgr.frozen_far _ (by simp; omega) hnv]; exact free_past _ hk2 rf
                       have hah : Hid (Below wC.heap.size wC (wC.alloc (.cells #[.string ⟨(tExp).toArray⟩, .string ⟨#[]⟩, .slice (some ⟨g0, 0, none⟩) 1 1] 24))) := below_alloc (Below.refl _ _) (Nat.le_refl _) _
                       have HP := Lib.hid (Grow.push (cap := cap) (ks2 := [.node ⟨(tExp).toArray⟩ ⟨#[]⟩ [leafT tDays ⟨(Lib.itoa n).toArray⟩]]) (w' := wA.setCell ⟨wo.heap.size, 2, none⟩ (.slice (some ⟨g, 0, none⟩) (ks3.length + 1) cap)) (G2.out.later hah.out)
                         (RowOf.kept (fun b hb _ => hah.out.block b hb) (fun _ _ h => h) HRW.out) (fun b hb => ⟨(HOW.out b hb).1, Nat.lt_of_lt_of_le (HOW.out b hb).2.1 hah.out.size, (HOW.out b hb).2.2⟩)
                         (RowOf.one (TreeOn.kept (fun b _ hob => hah.out.block b (by omega)) (fun _ _ h => h) _ _ _ _ HTR.out)) (fun b (hb : b = g0) => ⟨by omega, by have := hah.out.size; omega, fun e => by have := (HI3.out.grow.own_lt e.symm).2; omega⟩) hown hgr hat hlt3 rfl)
                       clear hown hgr hat hnv))
                  all_goals (go_wp2; go_meet; case rel => exact ⟨_, by rw [HDT.out]; exact HI3.out.pushed B2.out hah.out HP.out⟩)
                · have HDT : Hid (daysT tExp tDays rd = []) := by show _ = _; unfold daysT; rw [if_neg hn]
                  go_wp2
                  go_meet
                  case rel => exact ⟨_, by rw [HDT.out, List.append_nil]; exact HI3⟩
              case rest =>
                obtain ⟨v4, HI4⟩ := hcut
                obtain ⟨w4, rfl⟩ : ∃ w4 : World, w4 = wc := ⟨_, rfl⟩
                obtain ⟨ks4, HK4⟩ : ∃ ks, Hid (ks = ks3 ++ daysT tExp tDays rd) := ⟨_, rfl⟩
                have HL4 : Hid (ks4.length ≤ 4) := by show _ ≤ _; rw [HK4.out]; have := HL3.out; have := daysT_len tExp tDays rd; simp; omega
                rw [← HK4.out] at HI4
                obtain ⟨_, _, _, _, k4, _⟩ := HKS.out w4 HI4.out.below
                have hsw4 := HI4.out.size
                have hbl4 : b < w4.heap.size := by omega
                go_upto_if 86 with (fail)
                go_cut [] (fun w5 => ∃ vn, Hid (Inw wo w5 (ks4 ++ daysT tNon tNonDays rn) vn))
                case first =>
                  by_cases hn : 0 < rn
                  · obtain ⟨n, rfl⟩ : ∃ n : Nat, rn = n := ⟨(rn).toNat, by omega⟩
                    have HDT : Hid (daysT tNon tNonDays n = [.node ⟨(tNon).toArray⟩ ⟨#[]⟩ [leafT tNonDays ⟨(Lib.itoa n).toArray⟩]]) := by show _ = _; unfold daysT; rw [if_pos hn]
                    have HN : Hid (n ≤ 9223372036854775807) := by have := HInts.out.2.1; unfold IntOK at this; show _ ≤ _; omega
                    go_wp2_with fail
                    have c0 := cell_of_heap (x := 0) HI4.out.grow.box
                    have c1 := cell_of_heap (x := 1) HI4.out.grow.box
                    have c2 := cell_of_heap (x := 2) HI4.out.grow.box
                    have f2 := free_of_heap (x := 2) HI4.out.grow.box
                    simp at c0 c1 c2
                    have hkb := HI4.out.grow.kb_lt
                    have hkl := HL4.out
                    go_region_law (first
                      | (rw [if_pos (by kernel_rfl)]
                         go_wp2_with fail
                         refine (around_any tNon tNonDays n _ (by decide) (by decide) HN.out).mono ?_
                         rintro e wC ⟨g0, rfl, hg1, hg2, htr, hb2⟩
                         have B2 : Hid (Below w4.heap.size w4 wC) := (Below.refl _ _).drew.trans hb2
                         have G2 := Lib.hid (Grow.later HI4.out.grow B2.out)
                         obtain ⟨xs, ok, ho, hr, hok⟩ := G2.out.row
                         have HO := Lib.hid ho
                         have HRW := Lib.hid hr
                         have HOW := Lib.hid hok
                         have r0 := cell_later B2.out c0
                         have r1 := cell_later B2.out c1
                         have r2 := cell_later B2.out c2
                         have pA : (wC.alloc (.cells #[.string ⟨(tNon).toArray⟩, .string ⟨#[]⟩, .slice (some ⟨g0, 0, none⟩) 1 1] 24)).cell? ⟨wo.heap.size, 2, none⟩ = some v4 := cell_past _ r2
                         have rf : wC.frozen? ⟨wo.heap.size, 2, none⟩ = false := by rw [B2.out.frozen (by simpa using hkb)]; exact f2
                         have hs2 := B2.out.size
                         have HTR := Lib.hid htr
                         have hg3 : w4.heap.size ≤ g0 := hg1
                         clear htr hg1
                         clear ho hr hok hb2
                         go_wp2_with fail)
                      | (refine step_append_lies _ (by rfl) _ _ _ (by rfl) (wo.heap.size + 1) 24 i0 _ 3 56 Tryd.underlying22 hi hz0 hz1 hz2 rfl (by decide) v4 ks4.length xs (by rfl) (HO.out.alloc _) ⟨wC.heap.size, 0, none⟩ 1 1 [.string ⟨(tNon).toArray⟩, .string ⟨#[]⟩, .slice (some ⟨g0, 0, none⟩) 1 1] (by rfl) (by rfl) (fun j u hj => cells_new _ _ _ _ _ (by simpa using hj)) (by simp [Value.oneCell']) (by decide) (by simp only [maxLen]; omega) (by omega) (by simp; omega) _ rfl ?_
                         intro g cap wA hown hgr hat hlt3
                         have hnv : some wo.heap.size ≠ Value.ownBlock v4 := fun e => by have := (G2.out.own_lt e.symm).1; omega
                         have hk2 : wo.heap.size < wC.heap.size := by omega
                         have s2 : wA.cell? ⟨wo.heap.size, 2, none⟩ = some v4 := hgr.cell (cell_past _ r2) hnv
                         have sf : wA.frozen? ⟨wo.heap.size, 2, none⟩ = false := by rw [hgr.frozen_far _ (by simp; omega) hnv]; exact free_past _ hk2 rf
                         have hah : Hid (Below wC.heap.size wC (wC.alloc (.cells #[.string ⟨(tNon).toArray⟩, .string ⟨#[]⟩, .slice (some ⟨g0, 0, none⟩) 1 1] 24))) := below_alloc (Below.refl _ _) (Nat.le_refl _) _
                         have HP := Lib.hid (Grow.push (cap := cap) (ks2 := [.node ⟨(tNon).toArray⟩ ⟨#[]⟩ [leafT tNonDays ⟨(Lib.itoa n).toArray⟩]]) (w' := wA.setCell ⟨wo.heap.size, 2, none⟩ (.slice (some ⟨g, 0, none⟩) (ks4.length + 1) cap)) (G2.out.later hah.out)
                           (RowOf.kept (fun b hb _ => hah.out.block b hb) (fun _ _ h => h) HRW.out) (fun b hb => ⟨(HOW.out b hb).1, Nat.lt_of_lt_of_le (HOW.out b hb).2.1 hah.out.size, (HOW.out b hb).2.2⟩)
                           (RowOf.one (TreeOn.kept (fun b _ hob => hah.out.block b (by omega)) (fun _ _ h => h) _ _ _ _ HTR.out)) (fun b (hb : b = g0) => ⟨by omega, by have := hah.out.size; omega, fun e => by have := (HI4.out.grow.own_lt e.symm).2; omega⟩) hown hgr hat hlt3 rfl)
                         clear hown hgr hat hnv))
                    all_goals (go_wp2; go_meet; case rel => exact ⟨_, by rw [HDT.out]; exact HI4.out.pushed B2.out hah.out HP.out⟩)
                  · have HDT : Hid (daysT tNon tNonDays rn = []) := by show _ = _; unfold daysT; rw [if_neg hn]
                    go_wp2
                    go_meet
                    case rel => exact ⟨_, by rw [HDT.out, List.append_nil]; exact HI4⟩
                case rest =>
                  obtain ⟨v5, HI5⟩ := hcut
                  obtain ⟨w5, rfl⟩ : ∃ w5 : World, w5 = wc := ⟨_, rfl⟩
                  obtain ⟨ks5, HK5⟩ : ∃ ks, Hid (ks = ks4 ++ daysT tNon tNonDays rn) := ⟨_, rfl⟩
                  have HL5 : Hid (ks5.length ≤ 5) := by show _ ≤ _; rw [HK5.out]; have := HL4.out; have := daysT_len tNon tNonDays rn; simp; omega
                  rw [← HK5.out] at HI5
                  obtain ⟨_, _, _, _, _, k5⟩ := HKS.out w5 HI5.out.below
                  have hsw5 := HI5.out.size
                  have hbl5 : b < w5.heap.size := by omega
                  go_upto_if 103 with (fail)
                  go_cut [] (fun w6 => ∃ vn, Hid (Inw wo w6 (ks5 ++ daysT tAbort tAfter ra) vn))
                  case first =>
                    by_cases hn : 0 < ra
                    · obtain ⟨n, rfl⟩ : ∃ n : Nat, ra = n := ⟨(ra).toNat, by omega⟩
                      have HDT : Hid (daysT tAbort tAfter n = [.node ⟨(tAbort).toArray⟩ ⟨#[]⟩ [leafT tAfter ⟨(Lib.itoa n).toArray⟩]]) := by show _ = _; unfold daysT; rw [if_pos hn]
                      have HN : Hid (n ≤ 9223372036854775807) := by have := HInts.out.2.2; unfold IntOK at this; show _ ≤ _; omega
                      go_wp2_with fail
                      have c0 := cell_of_heap (x := 0) HI5.out.grow.box
                      have c1 := cell_of_heap (x := 1) HI5.out.grow.box
                      have c2 := cell_of_heap (x := 2) HI5.out.grow.box
                      have f2 := free_of_heap (x := 2) HI5.out.grow.box
                      simp at c0 c1 c2
                      have hkb := HI5.out.grow.kb_lt
                      have hkl := HL5.out
                      go_region_law (first
                        | (rw [if_pos (by kernel_rfl)]
                           go_wp2_with fail
                           refine (around_any tAbort tAfter n _ (by decide) (by decide) HN.out).mono ?_
                           rintro e wC ⟨g0, rfl, hg1, hg2, htr, hb2⟩
                           have B2 : Hid (Below w5.heap.size w5 wC) := (Below.refl _ _).drew.trans hb2
                           have G2 := Lib.hid (Grow.later HI5.out.grow B2.out)
                           obtain ⟨xs, ok, ho, hr, hok⟩ := G2.out.row
                           have HO := Lib.hid ho
                           have HRW := Lib.hid hr
                           have HOW := Lib.hid hok
                           have r0 := cell_later B2.out c0
                           have r1 := cell_later B2.out c1
                           have r2 := cell_later B2.out c2
                           have pA : (wC.alloc (.cells #[.string ⟨(tAbort).toArray⟩, .string ⟨#[]⟩, .slice (some ⟨g0, 0, none⟩) 1 1] 24)).cell? ⟨wo.heap.size, 2, none⟩ = some v5 := cell_past _ r2
                           have rf : wC.frozen? ⟨wo.heap.size, 2, none⟩ = false := by rw [B2.out.frozen (by simpa using hkb)]; exact f2
                           have hs2 := B2.out.size
                           have HTR := Lib.hid htr
                           have hg3 : w5.heap.size ≤ g0 := hg1
                           clear htr hg1
                           clear ho hr hok hb2
                           go_wp2_with fail)
                        | (refine step_append_lies _ (by rfl) _ _ _ (by rfl) (wo.heap.size + 1) 24 i0 _ 3 56 Tryd.underlying22 hi hz0 hz1 hz2 rfl (by decide) v5 ks5.length xs (by rfl) (HO.out.alloc _) ⟨wC.heap.size, 0, none⟩ 1 1 [.string ⟨(tAbort).toArray⟩, .string ⟨#[]⟩, .slice (some ⟨g0, 0, none⟩) 1 1] (by rfl) (by rfl) (fun j u hj => cells_new _ _ _ _ _ (by simpa using hj)) (by simp [Value.oneCell']) (by decide) (by simp only [maxLen]; omega) (by omega) (by simp; omega) _ rfl ?_
                           intro g cap wA hown hgr hat hlt3
                           have hnv : some wo.heap.size ≠ Value.ownBlock v5 := fun e => by have := (G2.out.own_lt e.symm).1; omega
                           have hk2 : wo.heap.size < wC.heap.size := by omega
                           have s2 : wA.cell? ⟨wo.heap.size, 2, none⟩ = some v5 := hgr.cell (cell_past _ r2) hnv
                           have sf : wA.frozen? ⟨wo.heap.size, 2, none⟩ = false := by rw [hgr.frozen_far _ (by simp; omega) hnv]; exact free_past _ hk2 rf
                           have hah : Hid (Below wC.heap.size wC (wC.alloc (.cells #[.string ⟨(tAbort).toArray⟩, .string ⟨#[]⟩, .slice (some ⟨g0, 0, none⟩) 1 1] 24))) := below_alloc (Below.refl _ _) (Nat.le_refl _) _
                           have HP := Lib.hid (Grow.push (cap := cap) (ks2 := [.node ⟨(tAbort).toArray⟩ ⟨#[]⟩ [leafT tAfter ⟨(Lib.itoa n).toArray⟩]]) (w' := wA.setCell ⟨wo.heap.size, 2, none⟩ (.slice (some ⟨g, 0, none⟩) (ks5.length + 1) cap)) (G2.out.later hah.out)
                             (RowOf.kept (fun b hb _ => hah.out.block b hb) (fun _ _ h => h) HRW.out) (fun b hb => ⟨(HOW.out b hb).1, Nat.lt_of_lt_of_le (HOW.out b hb).2.1 hah.out.size, (HOW.out b hb).2.2⟩)
                             (RowOf.one (TreeOn.kept (fun b _ hob => hah.out.block b (by omega)) (fun _ _ h => h) _ _ _ _ HTR.out)) (fun b (hb : b = g0) => ⟨by omega, by have := hah.out.size; omega, fun e => by have := (HI5.out.grow.own_lt e.symm).2; omega⟩) hown hgr hat hlt3 rfl)
                           clear hown hgr hat hnv))
                      all_goals (go_wp2; go_meet; case rel => exact ⟨_, by rw [HDT.out]; exact HI5.out.pushed B2.out hah.out HP.out⟩)
                    · have HDT : Hid (daysT tAbort tAfter ra = []) := by show _ = _; unfold daysT; rw [if_neg hn]
                      go_wp2
                      go_meet
                      case rel => exact ⟨_, by rw [HDT.out, List.append_nil]; exact HI5⟩
                  case rest =>
                    obtain ⟨v6, HI6⟩ := hcut
                    obtain ⟨w6, rfl⟩ : ∃ w6 : World, w6 = wc := ⟨_, rfl⟩
                    have hsw6 := HI6.out.size
                    have hwwo := HB.out.2.1
                    have GE : Hid (Grow w6 (w.heap.size + 2) (w.heap.size + 1) ⟨tConf.toArray⟩ ((l.take i).map ruleT) ve) := HGr.out.later HI6.out.below
                    have x2 := cell_of_heap (x := 2) GE.out.box
                    have fx := free_of_heap (x := 2) GE.out.box
                    have y0 := cell_of_heap (x := 0) HI6.out.grow.box
                    have y1 := cell_of_heap (x := 1) HI6.out.grow.box
                    have y2 := cell_of_heap (x := 2) HI6.out.grow.box
                    simp at x2 y0 y1 y2
                    obtain ⟨xs, ok3, ho, hr, hok3⟩ := GE.out.row
                    obtain ⟨okk, htree, hokk⟩ := HI6.out.grow.tree (by unfold maxRead; simp [ByteArray.size, tRule]) (by have := HL5.out; have := daysT_len tAbort tAfter ra; simp; omega)
                    have HTREE := Lib.hid htree
                    have HRO := Lib.hid hr
                    have HOK3 := Lib.hid hok3
                    have HOO := Lib.hid ho
                    have HOKK := Lib.hid hokk
                    have hlen : ((l.take i).map ruleT).length ≤ 2199023255552 := by simp; omega
                    have hwz : w.heap.size + 2 ≤ w6.heap.size := by have := HB.out.2.1; omega
                    have hwz1 : w.heap.size + 1 < w6.heap.size := by omega
                    have hkl1 : wo.heap.size < w6.heap.size := by omega
                    clear ho hr hok3 htree hokk
                    go_wp2_with (at_builtin; refine wpList_append_lies _ rfl _ _ 22 rfl (w.heap.size + 2) 24 i0 _ 3 56 Tryd.underlying22 hi hz0 hz1 hz2 rfl (by decide) ve ((l.take i).map ruleT).length xs rfl (HOO.out.alloc _) ⟨w6.heap.size, 0, none⟩ 1 1 [.string ⟨tRule.toArray⟩, .string ⟨#[]⟩, v6] rfl rfl ?d1 ?d2 (by decide) ?d3 ?d4 ?d5 _ rfl ?_)
                    case d1 => exact fun j u hj => cells_new _ _ _ _ _ (by simpa using hj)
                    case d2 => intro u hu; simp at hu; rcases hu with rfl | rfl | rfl; rfl; rfl; exact HTREE.out.oneCell.2.2
                    case d3 => simp only [maxLen]; omega
                    case d4 => omega
                    case d5 => simp; omega
                    intro g cap w7 hown hgr hat hlt7
                    have hne : ∀ b, b < w6.heap.size → b < w.heap.size + 2 → some b ≠ ve.ownBlock := fun b h1 h2 e => by have := (GE.out.own_lt e.symm).1; omega
                    have z2 : w7.cell? ⟨w.heap.size + 1, 2, none⟩ = some ve := hgr.cell (cell_past _ x2) (hne (w.heap.size + 1) (by omega) (by omega))
                    have zf : w7.frozen? ⟨w.heap.size + 1, 2, none⟩ = false := by rw [hgr.frozen_far _ (by simp; omega) (hne (w.heap.size + 1) (by omega) (by omega))]; exact free_past _ (by simp; omega) fx
                    have hah : Below w6.heap.size w6 (w6.alloc (.cells #[.string ⟨tRule.toArray⟩, .string ⟨#[]⟩, v6] 24)) := below_alloc (Below.refl _ _) (Nat.le_refl _) _
                    have HLN : Hid (((l.take i).map ruleT).length = i) := by show _ = _; simp; omega
                    have hp := Grow.push (cap := cap) (ks2 := [ruleT ⟨rid, rpre, ron, rd, rn, ra⟩]) (w' := w7.setCell ⟨w.heap.size + 1, 2, none⟩ (.slice (some ⟨g, 0, none⟩) (i + 1) cap)) (GE.out.later hah)
                      (RowOf.kept (fun b hb _ => hah.block b hb) (fun _ _ h => h) HRO.out) (fun b hb => ⟨(HOK3.out b hb).1, Nat.lt_of_lt_of_le (HOK3.out b hb).2.1 hah.size, (HOK3.out b hb).2.2⟩)
                      (RowOf.one (TreeOn.kept (fun b hb _ => hah.block b hb) (fun _ _ h => h) (ruleT ⟨rid, rpre, ron, rd, rn, ra⟩) _ _ _ (by
                        have e : ruleT ⟨rid, rpre, ron, rd, rn, ra⟩ = .node ⟨tRule.toArray⟩ ⟨#[]⟩ (ks5 ++ daysT tAbort tAfter ra) := by rw [HK5.out, HK4.out, HK3.out, HK0.out]; rfl
                        rw [e]; exact HTREE.out))) (fun b hb => ⟨by have := (HOKK.out b hb).1; omega, Nat.lt_of_lt_of_le (HOKK.out b hb).2 hah.size, fun e => by have := (HGr.out.own_lt e.symm).2; have := (HOKK.out b hb).1; omega⟩)
                      (by rw [HLN.out]; exact hown) hgr (hat.imp (fun h => h) (fun h => by simpa using h)) hlt7 (by rw [HLN.out]; rfl)
                    rw [HLN.out] at hp
                    have HP := Lib.hid hp
                    clear hp
                    have HB7 : Hid (Below w.heap.size w (w7.setCell ⟨w.heap.size + 1, 2, none⟩ (.slice (some ⟨g, 0, none⟩) (i + 1) cap)) ∧ w.heap.size + 2 ≤ (w7.setCell ⟨w.heap.size + 1, 2, none⟩ (.slice (some ⟨g, 0, none⟩) (i + 1) cap)).heap.size ∧ (w7.setCell ⟨w.heap.size + 1, 2, none⟩ (.slice (some ⟨g, 0, none⟩) (i + 1) cap)).heap[w.heap.size]? = some (.cells #[.string ⟨#[]⟩, .string ⟨#[]⟩, .slice none 0 0] 24 (0, 0))) := by
                      have hM : ∀ k, (k = w.heap.size + 1 ∨ some k = ve.ownBlock) → w.heap.size + 1 ≤ k := fun k hk => by
                        rcases hk with h | h
                        · omega
                        · have := (GE.out.own_lt h.symm).1; omega
                      have hC := HP.out.2
                      refine ⟨(HB.out.1.trans ((HI6.out.below.mono (by omega)).trans (hah.mono (by omega)))).trans (hC.below (by simp; omega) (fun k hk => by have := hM k hk; omega)), by have h1 := hC.size; have h2 := hah.size; omega, ?_⟩
                      rw [hC.block _ (by simp; omega) (fun h => by have := hM _ h; omega), hah.block _ (by omega), HI6.out.below.block _ (by omega)]
                      exact HB.out.2.2
                    have HG7 : Hid (Grow (w7.setCell ⟨w.heap.size + 1, 2, none⟩ (.slice (some ⟨g, 0, none⟩) (i + 1) cap)) (w.heap.size + 2) (w.heap.size + 1) ⟨tConf.toArray⟩ ((l.take (i + 1)).map ruleT) (.slice (some ⟨g, 0, none⟩) (i + 1) cap)) := by
                      have e : (l.take (i + 1)).map ruleT = (l.take i).map ruleT ++ [ruleT ⟨rid, rpre, ron, rd, rn, ra⟩] := by rw [List.take_add_one, HR.out]; simp
                      show Grow _ _ _ _ _ _
                      rw [e]; exact HP.out.1
                    clear hown hgr hat hlt7 hne hah
                    go_wp2
                    go_roundg (l.length - (i + 1))
                    case measure => omega
                    case rel => exact ⟨i + 1, _, by omega, Nat.le_refl _, by go_num, HG7, HB7⟩
    · obtain rfl : i = l.length := by omega
      have hsz2 := HGr.out.kb_lt
      obtain ⟨xs, ok, ho, hr, hok2⟩ := HGr.out.row
      have HRow := Lib.hid hr
      have HOwn := Lib.hid ho
      obtain ⟨av, nv, cv, rfl⟩ : ∃ a n c, ve = .slice a n c := by
        rcases ho.2 with ⟨h1, h2⟩ | ⟨g, cap, cur, h1, _⟩
        · exact ⟨_, _, _, h1⟩
        · exact ⟨_, _, _, h1⟩
      clear ho hr hok2
      go_wp2_with (first
        | (refine wpList_load_row (by rfl) 24 _ (by rfl) (w.heap.size + 1) (by rfl) 24 _ (0, 0) _ (by exact HGr.out.box) Tryd.underlying24 rfl (by kernel_rfl) ?_)
        | (refine wpList_store_row (by rfl) 24 _ _ (by rfl) w.heap.size _ (by rfl) (by rfl) 24 _ (by exact HB.out.2.2) (by kernel_rfl) (by kernel_rfl) (by kernel_rfl) ?_))
      refine bodyPost_ret (results_cell1 rfl _ _ w.heap.size 24 _ _ rfl (setRow_heap _ _ _ _ _ _ HB.out.2.2) Tryd.underlying24 rfl (by kernel_rfl)) rfl ?_
      obtain ⟨okk, htree, hokk⟩ := HGr.out.tree (by unfold maxRead; simp [ByteArray.size, tConf]) (by simp; omega)
      rw [List.take_of_length_le (Nat.le_refl _)] at htree
      refine ⟨_, _, _, rfl, TreeOn.to_in _ _ _ _ (TreeOn.kept (ok' := fun _ => True) (fun b hb hob => setRow_other _ _ _ _ (by have := (hokk b hob).1; omega)) (fun _ _ _ => trivial) _ _ _ _ htree), ?_⟩
      exact below_one_row _ _ _ _ _ HB.out.1 (Nat.le_refl _)

end Go.Proofs.YtnnfcbebjbfkoaaDoor
