/-
  Tell: what it tells; the walk.
-/
import Derived.Test.YtnnfcbebjbfkoaaDoorSm
import Derived.Deep.RegionHeld3
import Derived.Lib.ItoaLen
import Derived.Deep.LoopGhost
import Derived.Deep.CutBlock
import Derived.Deep.DeepCutAuto
namespace Go.Proofs.YtnnfcbebjbfkoaaDoor
open Go.RowKit

def leafT (name : List UInt8) (text : ByteArray) : Tree := .node ⟨name.toArray⟩ text []
def daysT (name kid : List UInt8) (n : Int) : List Tree := if 0 < n then [.node ⟨name.toArray⟩ ⟨#[]⟩ [leafT kid ⟨(Lib.itoa n).toArray⟩]] else []
/-- the kids of a rule's element -/
def idT (r : RuleV) : List Tree := if r.id.toList = [] then [] else [leafT tID r.id]
def statusT (r : RuleV) : Tree := leafT tStatus ⟨(if r.on then tEnabled else tDisabled).toArray⟩
def filterT (r : RuleV) : Tree := .node ⟨tFilter.toArray⟩ ⟨#[]⟩ (if r.pre.toList = [] then [] else [leafT tPrefix r.pre])
def ruleT (r : RuleV) : Tree := .node ⟨tRule.toArray⟩ ⟨#[]⟩ (idT r ++ [statusT r, filterT r] ++ daysT tExp tDays r.days ++ daysT tNon tNonDays r.nonc ++ daysT tAbort tAfter r.abort)
def tellT (l : List RuleV) : Tree := .node ⟨tConf.toArray⟩ ⟨#[]⟩ (l.map ruleT)

theorem leaf_on {w : World} {ok : Nat → Prop} (name : List UInt8) (text : ByteArray) (h1 : name.length ≤ 100) (h2 : text.size ≤ maxRead) : TreeOn w ok (leafT name text) (.string ⟨name.toArray⟩) (.string text) (.slice none 0 0) := by
  unfold leafT TreeOn
  exact ⟨rfl, rfl, by unfold maxRead; simp [ByteArray.size]; omega, h2, by simp, none, 0, rfl, by unfold KidsOn; trivial⟩

/-- the three kinds of days, as Tell lays them -/
def arrV (d n a : Int) : List Value := [.string ⟨tExp.toArray⟩, .string ⟨tDays.toArray⟩, .int .i64 d, .string ⟨tNon.toArray⟩, .string ⟨tNonDays.toArray⟩, .int .i64 n, .string ⟨tAbort.toArray⟩, .string ⟨tAfter.toArray⟩, .int .i64 a]
def daysTo (d n a : Int) : Nat → List Tree
  | 0 => []
  | 1 => daysT tExp tDays d
  | 2 => daysT tExp tDays d ++ daysT tNon tNonDays n
  | _ => daysT tExp tDays d ++ daysT tNon tNonDays n ++ daysT tAbort tAfter a

theorem daysT_len (nm kd : List UInt8) (n : Int) : (daysT nm kd n).length ≤ 1 := by unfold daysT; split <;> simp
theorem daysTo_len (d n a : Int) : ∀ j, (daysTo d n a j).length ≤ 3
  | 0 => by simp [daysTo]
  | 1 => by have := daysT_len tExp tDays d; simp only [daysTo]; omega
  | 2 => by have := daysT_len tExp tDays d; have := daysT_len tNon tNonDays n; simp only [daysTo, List.length_append]; omega
  | j + 3 => by have := daysT_len tExp tDays d; have := daysT_len tNon tNonDays n; have := daysT_len tAbort tAfter a; simp only [daysTo, List.length_append]; omega

theorem itoa_len (n : Int) (h : IntOK n) : (Lib.itoa n).length ≤ maxRead := by
  have := Lib.itoa_length_le n h.1 h.2
  unfold maxRead; omega

/-- the element of some days, its kid in a new block -/
theorem days_on (w7 : World) (nm kd : List UInt8) (n : Int) (h1 : nm.length ≤ 100) (h2 : kd.length ≤ 100) (h3 : IntOK n) :
    TreeOn (w7.alloc (.cells #[.string ⟨kd.toArray⟩, .string ⟨(Lib.itoa n).toArray⟩, .slice none 0 0] 24)) (fun b => b = w7.heap.size) (.node ⟨nm.toArray⟩ ⟨#[]⟩ [leafT kd ⟨(Lib.itoa n).toArray⟩]) (.string ⟨nm.toArray⟩) (.string ⟨#[]⟩) (.slice (some ⟨w7.heap.size, 0, none⟩) 1 1) := by
  unfold TreeOn
  refine ⟨rfl, rfl, by unfold maxRead; simp [ByteArray.size]; omega, by unfold maxRead; simp [ByteArray.size], by simp, _, _, rfl, ?_⟩
  unfold KidsOn
  exact ⟨⟨w7.heap.size, 0, _, _, _, rfl, rfl, cell_new _ _ _ _ _ _ rfl rfl, cell_new _ _ _ _ _ _ rfl rfl, cell_new _ _ _ _ _ _ rfl rfl, leaf_on kd _ h2 (itoa_len n h3)⟩, by unfold KidsOn; trivial⟩

/-- what holds within a round: the rule's copy, its element's kids so far -/
structure Inn (wo wc : World) (r : RuleV) (ks : List Tree) (v : Value) : Prop where
  below : Below wo.heap.size wo wc
  size : wo.heap.size + 2 ≤ wc.heap.size
  rule : wc.heap[wo.heap.size]? = some (.cells r.cells.toArray 34 (0, 0))
  grow : Grow wc (wo.heap.size + 2) (wo.heap.size + 1) ⟨tRule.toArray⟩ ks v

theorem Inn.later {wo wc w' : World} {r : RuleV} {ks : List Tree} {v : Value} (h : Inn wo wc r ks v) (hb : Below wc.heap.size wc w') : Inn wo w' r ks v :=
  ⟨h.below.trans (hb.mono (by have := h.size; omega)), Nat.le_trans h.size hb.size, by rw [hb.block _ (by have := h.size; omega)]; exact h.rule, h.grow.later hb⟩
theorem Inn.put {wo wc w' : World} {r : RuleV} {ks ks' : List Tree} {v v' : Value} (h : Inn wo wc r ks v) (hg : Grow w' (wo.heap.size + 2) (wo.heap.size + 1) ⟨tRule.toArray⟩ ks' v') (hc : Chg wc w' (fun b => b = wo.heap.size + 1 ∨ some b = v.ownBlock)) : Inn wo w' r ks' v' := by
  have hs := h.size
  have hm : ∀ k, (k = wo.heap.size + 1 ∨ some k = v.ownBlock) → wo.heap.size + 1 ≤ k := fun k hk => by
    rcases hk with h1 | h1
    · omega
    · have := (h.grow.own_lt h1.symm).1; omega
  exact ⟨h.below.trans (hc.below (by omega) (fun k hk => by have := hm k hk; omega)), Nat.le_trans hs hc.size, by rw [hc.block _ (by omega) (fun hk => by have := hm _ hk; omega)]; exact h.rule, hg⟩

/-- one kid more, laid in a new block -/
theorem put_one (wo wc : World) (r : RuleV) (ks : List Tree) (v : Value) (k : Tree) (x y z : Value) (ok : Nat → Prop) (h : Inn wo wc r ks v) (hk : TreeOn wc ok k x y z) (hok : ∀ b, ok b → wo.heap.size + 2 ≤ b ∧ b < wc.heap.size ∧ some b ≠ v.ownBlock) (hn : ks.length ≤ 1000) (B : Nat) (hB : wc.heap.size = B) :
    Calls Tryd.prog 21 #[.slice (some ⟨B, 0, none⟩) 1 1, .pointer (some ⟨wo.heap.size + 1, 0, none⟩)] (wc.alloc (.cells #[x, y, z] 24)) fun e w' => e = .returned (.tuple #[]) ∧ (∃ v', Inn wo w' r (ks ++ [k]) v' ∧ OwnNew wc v v') ∧ Chg (wc.alloc (.cells #[x, y, z] 24)) w' (fun b => b = wo.heap.size + 1 ∨ some b = v.ownBlock) := by
  subst hB
  have ha : Below wc.heap.size wc (wc.alloc (.cells #[x, y, z] 24)) := below_alloc (Below.refl _ _) (Nat.le_refl _) _
  have hs := h.size
  refine (put_any _ (wo.heap.size + 2) (wo.heap.size + 1) ⟨tRule.toArray⟩ ks [k] v ⟨wc.heap.size, 0, none⟩ 1 [x, y, z] ok (h.grow.later ha) (RowOf.one (TreeOn.kept (fun b hb _ => ha.block b hb) (fun _ _ h => h) _ _ _ _ hk))
    (fun b hb => ⟨(hok b hb).1, by have := (hok b hb).2.1; simp; omega, (hok b hb).2.2⟩) (fun j u hj => cells_new _ _ _ _ _ (by simpa using hj)) (by simp) (by simp; omega) (by simp; omega)).mono ?_
  rintro e w' ⟨he, ⟨v', hg, hn⟩, hc⟩
  exact ⟨he, ⟨v', (h.later ha).put hg hc, fun g hg' => (hn g hg').imp (fun h => h) (fun h => Nat.le_trans ha.size h)⟩, hc⟩

/-- two kids more -/
theorem put_two (wo wc : World) (r : RuleV) (ks : List Tree) (v : Value) (k k' : Tree) (x y z x' y' z' : Value) (ok : Nat → Prop) (h : Inn wo wc r ks v) (hk : TreeOn wc ok k x y z) (hk' : TreeOn wc ok k' x' y' z') (hok : ∀ b, ok b → wo.heap.size + 2 ≤ b ∧ b < wc.heap.size ∧ some b ≠ v.ownBlock) (hn : ks.length ≤ 1000) :
    Calls Tryd.prog 21 #[.slice (some ⟨wc.heap.size, 0, none⟩) 2 2, .pointer (some ⟨wo.heap.size + 1, 0, none⟩)] (wc.alloc (.cells #[x, y, z, x', y', z'] 24)) fun e w' => e = .returned (.tuple #[]) ∧ (∃ v', Inn wo w' r (ks ++ [k, k']) v' ∧ OwnNew wc v v') ∧ Chg (wc.alloc (.cells #[x, y, z, x', y', z'] 24)) w' (fun b => b = wo.heap.size + 1 ∨ some b = v.ownBlock) := by
  have ha : Below wc.heap.size wc (wc.alloc (.cells #[x, y, z, x', y', z'] 24)) := below_alloc (Below.refl _ _) (Nat.le_refl _) _
  have hs := h.size
  refine (put_any _ (wo.heap.size + 2) (wo.heap.size + 1) ⟨tRule.toArray⟩ ks [k, k'] v ⟨wc.heap.size, 0, none⟩ 2 [x, y, z, x', y', z'] ok (h.grow.later ha)
    ⟨x, y, z, _, rfl, TreeOn.kept (fun b hb _ => ha.block b hb) (fun _ _ h => h) _ _ _ _ hk, RowOf.one (TreeOn.kept (fun b hb _ => ha.block b hb) (fun _ _ h => h) _ _ _ _ hk')⟩
    (fun b hb => ⟨(hok b hb).1, by have := (hok b hb).2.1; simp; omega, (hok b hb).2.2⟩) (fun j u hj => cells_new _ _ _ _ _ (by simpa using hj)) (by simp) (by simp; omega) (by simp; omega)).mono ?_
  rintro e w' ⟨he, ⟨v', hg, hn⟩, hc⟩
  exact ⟨he, ⟨v', (h.later ha).put hg hc, fun g hg' => (hn g hg').imp (fun h => h) (fun h => Nat.le_trans ha.size h)⟩, hc⟩

set_option maxHeartbeats 2000000 in
set_option maxRecDepth 100000 in
theorem tell_walk (l : List RuleV) (lv : Value) (w : World) (hG : Glob w) (hL : RulesIn w lv l) (hok : ∀ r ∈ l, IntOK r.days ∧ IntOK r.nonc ∧ IntOK r.abort) (hsz : ∀ r ∈ l, r.id.size ≤ maxRead ∧ r.pre.size ≤ maxRead) (hl : l.length ≤ 2199023255552) :
    Calls Tryd.prog 9 #[lv] w fun e w' => ∃ x y z, e = .returned (.agg #[x, y, z]) ∧ TreeIn w' (tellT l) x y z ∧ Below w.heap.size w w' := by
  obtain ⟨al, cl, rfl⟩ : ∃ a c, lv = .slice a l.length c := by obtain ⟨a, c, h, _⟩ := hL; exact ⟨a, c, h⟩
  obtain ⟨i0, hi, hz0, hz1, hz2⟩ := info_elem
  have HG := Lib.hid hG
  have HL := Lib.hid hL
  have HOK := Lib.hid hok
  have HSZ := Lib.hid hsz
  clear hG hL hok hsz
  go_enter Tryd.func9, Tryd.ntmps9
  go_wp2
  go_loopg [16] l.length (fun gg s16 wr => ∃ (i : Nat) (v : Value), i ≤ l.length ∧ l.length - i ≤ gg ∧ s16 = .int .i64 i ∧ Hid (Grow wr (w.heap.size + 2) (w.heap.size + 1) ⟨tConf.toArray⟩ ((l.take i).map ruleT) v) ∧
    Hid (Below w.heap.size w wr ∧ w.heap.size + 2 ≤ wr.heap.size ∧ wr.heap[w.heap.size]? = some (.cells #[.string ⟨#[]⟩, .string ⟨#[]⟩, .slice none 0 0] 24 (0, 0))))
  case atStart =>
    refine ⟨0, .slice none 0 0, Nat.zero_le _, by omega, rfl, (show Hid _ from ?_), (show Hid _ from ⟨below_alloc (below_alloc (Below.refl _ _) (Nat.le_refl _) _) (Nat.le_refl _) _, by simp, ?_⟩)⟩
    · exact ⟨heap_at _ _ (by simp), by omega, [], fun _ => False, World.ownsRow_nil _ _ _ _, rfl, fun b h => h.elim⟩
    · rw [Below.heap_alloc _ _ _ (by simp)]; exact heap_at _ _ rfl
  case round =>
    obtain ⟨i, ve, hin, hgg, rfl, HGr, HB⟩ := hrel
    by_cases hlt : i < l.length
    · obtain ⟨r, HR⟩ : ∃ r, Hid (l[i]? = some r) := ⟨_, List.getElem?_eq_getElem hlt⟩
      obtain ⟨b, off, hal, hcells⟩ : ∃ b off, al = some ⟨b, off, none⟩ ∧ ∀ j u, r.cells[j]? = some u → wr.cell? ⟨b, off + i * 6 + j, none⟩ = some u := by
        obtain ⟨a', c', h1, _, h2⟩ := HL.out.later HB.out.1
        obtain ⟨b, off, h3, h4⟩ := h2 (by omega)
        simp only [Value.slice.injEq] at h1
        exact ⟨b, off, h1.1.trans h3, h4 i r HR.out⟩
      subst hal
      obtain ⟨rid, rpre, ron, rd, rn, ra⟩ := r
      have k0 := hcells 0 _ rfl
      have k1 := hcells 1 _ rfl
      have k2 := hcells 2 _ rfl
      have k3 := hcells 3 _ rfl
      have k4 := hcells 4 _ rfl
      have k5 := hcells 5 _ rfl
      simp only [Nat.add_zero] at k0
      have hbl := World.block_lt_of_cell? wr _ k0
      obtain ⟨wo, rfl⟩ : ∃ wo : World, wo = wr := ⟨_, rfl⟩
      clear hcells
      have HRid : Hid (rid.size ≤ maxRead ∧ rpre.size ≤ maxRead) := HSZ.out _ (List.mem_of_getElem? HR.out)
      have HInts : Hid (IntOK rd ∧ IntOK rn ∧ IntOK ra) := HOK.out _ (List.mem_of_getElem? HR.out)
      have HI0 : Hid (Inn wo ((wo.alloc (.cells #[.string rid, .string rpre, .bool ron, .int .i64 rd, .int .i64 rn, .int .i64 ra] 34)).alloc (.cells #[.string ⟨#[82, 117, 108, 101]⟩, .string ⟨#[]⟩, .slice none 0 0] 24)) ⟨rid, rpre, ron, rd, rn, ra⟩ [] (.slice none 0 0)) := by
        refine ⟨below_alloc (below_alloc (Below.refl _ _) (Nat.le_refl _) _) (Nat.le_refl _) _, by simp, ?_, ⟨heap_at _ _ (by simp), by omega, [], fun _ => False, World.ownsRow_nil _ _ _ _, rfl, fun b h => h.elim⟩⟩
        rw [Below.heap_alloc _ _ _ (by simp)]; exact heap_at _ _ rfl
      go_upto_if 24 with (fail)
      go_cut [] (fun w1 => ∃ v1, Hid (Inn wo w1 ⟨rid, rpre, ron, rd, rn, ra⟩ (idT ⟨rid, rpre, ron, rd, rn, ra⟩) v1))
      case first =>
        cases h0 : (!rid.toList.isEmpty)
        · have HI1 : Hid (idT ⟨rid, rpre, ron, rd, rn, ra⟩ = []) := by show _ = _; unfold idT; rw [if_pos (by simpa using h0)]
          clear h0
          go_wp2
          go_meet
          case rel => exact ⟨_, by rw [HI1.out]; exact HI0.out⟩
        · have HI1 : Hid (idT ⟨rid, rpre, ron, rd, rn, ra⟩ = [leafT tID rid]) := by show _ = _; unfold idT; rw [if_neg (by simpa using h0)]
          clear h0
          go_wp2_with fail
          refine (text_any _ _ _).mono ?_
          rintro e w1 ⟨rfl, hb1⟩
          have I1 := Lib.hid (HI0.out.later hb1)
          clear hb1
          go_wp2_with fail
          refine (put_one wo w1 _ [] _ (leafT tID rid) _ _ _ (fun _ => False) I1.out (leaf_on tID rid (by decide) HRid.out.1) (fun b h => h.elim) (by simp) _ rfl).mono ?_
          rintro e w2 ⟨rfl, ⟨v2, I2, _⟩, _⟩
          have HI2 := Lib.hid I2
          clear I2
          go_wp2
          go_meet
          case rel => exact ⟨_, by rw [HI1.out]; exact HI2.out⟩
      case rest =>
        obtain ⟨v1, HI1⟩ := hcut
        obtain ⟨w1, rfl⟩ : ∃ w1 : World, w1 = wc := ⟨_, rfl⟩
        have hs1 := HI1.out.size
        have q0 := cell_of_heap (x := 0) HI1.out.rule
        have q1 := cell_of_heap (x := 1) HI1.out.rule
        have q2 := cell_of_heap (x := 2) HI1.out.rule
        simp [RuleV.cells] at q0 q1 q2
        have hro : wo.heap.size < w1.heap.size := by omega
        obtain ⟨st, HST⟩ : ∃ st : ByteArray, Hid (st = ⟨(if ron then tEnabled else tDisabled).toArray⟩) := ⟨_, rfl⟩
        go_upto_if 34 with (fail)
        go_cut [9] (fun s9 w2 => s9 = .string st ∧ w2 = w1.alloc (.cells #[.string ⟨#[70, 105, 108, 116, 101, 114]⟩, .string ⟨#[]⟩, .slice none 0 0] 24))
        case first =>
          cases ron
          · go_wp2
            go_meet
            case rel => exact ⟨by rw [HST.out]; rfl, rfl⟩
          · go_wp2
            go_meet
            case rel => exact ⟨by rw [HST.out]; rfl, rfl⟩
        case rest =>
          obtain ⟨rfl, rfl⟩ := hcut
          go_upto_if 37 with (fail)
          go_cut [] (fun w3 => ∃ fz, ∃ ok : Nat → Prop, Hid (Below w1.heap.size w1 w3 ∧ w1.heap.size + 1 ≤ w3.heap.size ∧ w3.heap[w1.heap.size]? = some (.cells #[.string ⟨#[70, 105, 108, 116, 101, 114]⟩, .string ⟨#[]⟩, fz] 24 (0, 0)) ∧
            TreeOn w3 ok (filterT ⟨rid, rpre, ron, rd, rn, ra⟩) (.string ⟨#[70, 105, 108, 116, 101, 114]⟩) (.string ⟨#[]⟩) fz ∧ ∀ b, ok b → w1.heap.size ≤ b ∧ b < w3.heap.size))
          case first =>
            cases h1 : (!rpre.toList.isEmpty)
            · have HFT : Hid (filterT ⟨rid, rpre, ron, rd, rn, ra⟩ = .node ⟨tFilter.toArray⟩ ⟨#[]⟩ []) := by show _ = _; unfold filterT; rw [if_pos (by simpa using h1)]
              clear h1
              go_wp2
              go_meet
              case rel =>
                refine ⟨_, fun _ => False, (show Hid _ from ⟨below_alloc (Below.refl _ _) (Nat.le_refl _) _, by simp, heap_at _ _ rfl, ?_, fun b h => h.elim⟩)⟩
                rw [HFT.out]
                unfold TreeOn
                exact ⟨rfl, rfl, by unfold maxRead; simp [ByteArray.size, tFilter], by unfold maxRead; simp [ByteArray.size], by simp, none, 0, rfl, by unfold KidsOn; trivial⟩
            · have HFT : Hid (filterT ⟨rid, rpre, ron, rd, rn, ra⟩ = .node ⟨tFilter.toArray⟩ ⟨#[]⟩ [leafT tPrefix rpre]) := by show _ = _; unfold filterT; rw [if_neg (by simpa using h1)]
              clear h1
              go_wp2_with fail
              refine (text_any _ _ _).mono ?_
              rintro e w2 ⟨rfl, hb2⟩
              have hs2 := hb2.size
              simp at hs2
              have f2 : w2.heap[w1.heap.size]? = some (.cells #[.string ⟨#[70, 105, 108, 116, 101, 114]⟩, .string ⟨#[]⟩, .slice none 0 0] 24 (0, 0)) := by rw [hb2.block _ (by simp)]; exact heap_at _ _ rfl
              have F2 := Lib.hid f2
              have c2 := cell_of_heap (x := 2) f2
              have e2 := free_of_heap (x := 2) f2
              simp at c2
              have HB2 : Hid (Below w1.heap.size w1 w2) := (below_alloc (Below.refl _ _) (Nat.le_refl _) _).trans (hb2.mono (by simp))
              clear hb2 f2
              have hs2a : w1.heap.size < w2.heap.size := by omega
              go_wp2
              go_meet
              case rel =>
                refine ⟨.slice (some ⟨w2.heap.size, 0, none⟩) 1 1, fun b => b = w2.heap.size, (show Hid _ from ⟨(HB2.out.setCell (by simp) _).alloc (by simp [World.setCell]; omega) _, by simp [World.setCell]; omega, ?_, ?_, fun b hb => ?_⟩)⟩
                · rw [Below.heap_alloc _ _ _ (by simp [World.setCell]; omega), heap_set F2.out]; simp
                · rw [HFT.out]
                  unfold TreeOn
                  refine ⟨rfl, rfl, by unfold maxRead; simp [ByteArray.size, tFilter], by unfold maxRead; simp [ByteArray.size], by simp, _, _, rfl, ?_⟩
                  unfold KidsOn
                  exact ⟨⟨w2.heap.size, 0, _, _, _, rfl, rfl, cell_new _ _ _ _ _ _ (by simp [World.setCell]) rfl, cell_new _ _ _ _ _ _ (by simp [World.setCell]) rfl, cell_new _ _ _ _ _ _ (by simp [World.setCell]) rfl, leaf_on tPrefix rpre (by decide) HRid.out.2⟩, by unfold KidsOn; trivial⟩
                · subst hb
                  exact ⟨by omega, by simp [World.setCell]⟩
          case rest =>
            obtain ⟨fz, ok, HF⟩ := hcut
            obtain ⟨w3, rfl⟩ : ∃ w3 : World, w3 = wc := ⟨_, rfl⟩
            go_wp2_with fail
            have hs3 := HF.out.2.1
            have p0 := cell_of_heap (x := 0) HF.out.2.2.1
            have p1 := cell_of_heap (x := 1) HF.out.2.2.1
            have p2 := cell_of_heap (x := 2) HF.out.2.2.1
            simp at p0 p1 p2
            have hfl : w1.heap.size < w3.heap.size := by omega
            refine wp_region_held_drew (S := (fun w' => w'.cell? ⟨w1.heap.size, 0, none⟩ = some (.string ⟨#[70, 105, 108, 116, 101, 114]⟩) ∧ w'.cell? ⟨w1.heap.size, 1, none⟩ = some (.string ⟨#[]⟩) ∧ w'.cell? ⟨w1.heap.size, 2, none⟩ = some fz)) (by kernel_rfl) ⟨p0, p1, p2⟩ (fun hHeld => ?_)
            refine wpAnyH_take (i := 0) (oi := { dst := some 44, op := _, type := _, pos := _, after := _, guard := _ }) (v := ?_) rfl (by kernel_rfl) (by kernel_rfl) (by kernel_rfl) (fun _ _ _ h => h) (Or.inl ⟨by kernel_rfl, ?_⟩) (by assumption) ?_
            rotate_left
            · (intro w hSw; (try dsimp only at hSw); go_simp); all_goals (with_reducible rfl)
            try simp only [Act.put, List.setIfInBounds_toArray, List.set_cons_zero, List.set_cons_succ]
            refine wpAnyH_take (i := 1) (oi := { dst := some 45, op := _, type := _, pos := _, after := _, guard := _ }) (v := ?_) rfl (by kernel_rfl) (by kernel_rfl) (by kernel_rfl) (fun _ _ _ h => h) (Or.inl ⟨by kernel_rfl, ?_⟩) (by assumption) ?_
            rotate_left
            · (intro w hSw; (try dsimp only at hSw); go_simp); all_goals (with_reducible rfl)
            try simp only [Act.put, List.setIfInBounds_toArray, List.set_cons_zero, List.set_cons_succ]
            refine wpAnyH_take (i := 2) (oi := { dst := some 46, op := _, type := _, pos := _, after := _, guard := _ }) (v := ?_) rfl (by kernel_rfl) (by kernel_rfl) (by kernel_rfl) (fun _ _ _ h => h) (Or.inl ⟨by kernel_rfl, ?_⟩) (by assumption) ?_
            rotate_left
            · (intro w hSw; (try dsimp only at hSw); go_simp); all_goals (with_reducible rfl)
            try simp only [Act.put, List.setIfInBounds_toArray, List.set_cons_zero, List.set_cons_succ]
            refine wpAnyH_take (i := 4) (oi := { dst := some 48, op := _, type := _, pos := _, after := _, guard := _ }) (v := ?_) rfl (by kernel_rfl) (by kernel_rfl) (by kernel_rfl) (fun _ _ _ h => h) (Or.inl ⟨by kernel_rfl, ?_⟩) (by assumption) ?_
            rotate_left
            · (intro w hSw; (try dsimp only at hSw); go_simp); all_goals (with_reducible rfl)
            try simp only [Act.put, List.setIfInBounds_toArray, List.set_cons_zero, List.set_cons_succ]
            refine wpAnyH_ready (rs := [3]) (by kernel_rfl) (by simp) ?_
            refine AllReadyH.cons rfl (fun K hK => ?_) AllReadyH.nil
            rw [if_pos (by kernel_rfl)]
            go_wp2_with fail
            refine (text_any _ _ _).mono ?_
            rintro e w4 ⟨rfl, hb4⟩
            go_wp2_with fail
            have r0 : w4.cell? ⟨w1.heap.size, 0, none⟩ = _ := cell_later hb4 p0
            have r1 : w4.cell? ⟨w1.heap.size, 1, none⟩ = _ := cell_later hb4 p1
            have r2 : w4.cell? ⟨w1.heap.size, 2, none⟩ = _ := cell_later hb4 p2
            have B34 : Hid (Below w3.heap.size w3 w4) := (Below.refl _ _).drew.trans hb4
            have hs4 := B34.out.size
            refine hK.out _ _ ⟨r0, r1, r2⟩ (fun hHeld4 => ?_)
            clear hK K hHeld hb4
            try simp only [Act.put, List.setIfInBounds_toArray, List.set_cons_zero, List.set_cons_succ]
            refine wpAnyH_ready (rs := [5]) (by kernel_rfl) (by simp) ?_
            refine AllReadyH.cons rfl (fun K hK => ?_) AllReadyH.nil
            rw [if_pos (by kernel_rfl)]
            go_wp2_with fail
            refine hK.out _ _ ⟨cell_past _ r0, cell_past _ r1, cell_past _ r2⟩ (fun hHeld5 => ?_)
            clear hK K hHeld4
            try simp only [Act.put, List.setIfInBounds_toArray, List.set_cons_zero, List.set_cons_succ]
            refine wpAnyH_ready (rs := [6]) (by kernel_rfl) (by simp) ?_
            refine AllReadyH.cons rfl (fun K hK => ?_) AllReadyH.nil
            rw [if_pos (by kernel_rfl)]
            go_wp2_with fail
            have hv1 : ∀ b, w1.heap.size ≤ b → some b ≠ v1.ownBlock := fun b hb e => by have := (HI1.out.grow.own_lt e.symm).2; omega
            refine (put_two wo w4 ⟨rid, rpre, ron, rd, rn, ra⟩ (idT ⟨rid, rpre, ron, rd, rn, ra⟩) v1 (statusT ⟨rid, rpre, ron, rd, rn, ra⟩) (filterT ⟨rid, rpre, ron, rd, rn, ra⟩) _ _ _ _ _ _ (fun b => w1.heap.size ≤ b ∧ b < w4.heap.size) (HI1.out.later (HF.out.1.trans (B34.out.mono (by omega))))
              (by unfold statusT; rw [← HST.out]; exact leaf_on tStatus st (by decide) (by rw [HST.out]; unfold maxRead; cases ron <;> simp [ByteArray.size, tEnabled, tDisabled]))
              (TreeOn.kept (fun b hb _ => B34.out.block b hb) (fun b hb hob => ⟨(HF.out.2.2.2.2 b hob).1, by omega⟩) _ _ _ _ HF.out.2.2.2.1)
              (fun b hb => ⟨by omega, hb.2, hv1 b hb.1⟩) (by unfold idT; split <;> simp)).mono ?_
            rintro e w5 ⟨rfl, ⟨v5, I5, _⟩, C5⟩
            have HI5 := Lib.hid I5
            have hkeep : ∀ o, w5.cell? ⟨w1.heap.size, o, none⟩ = w4.cell? ⟨w1.heap.size, o, none⟩ := fun o => by
              refine (World.cell?_of_block (w := w4.alloc _) (C5.block _ (by simp; omega) (fun h => ?_))).trans (World.cell?_alloc_lt _ _ _ (by simp; omega))
              rcases h with h | h
              · simp only at h; omega
              · exact hv1 _ (Nat.le_refl _) h
            go_wp2_with fail
            refine hK.out _ _ ⟨(hkeep 0).trans r0, (hkeep 1).trans r1, (hkeep 2).trans r2⟩ (fun hHeld6 => ?_)
            clear hK K hHeld5
            try simp only [Act.put, List.setIfInBounds_toArray, List.set_cons_zero, List.set_cons_succ]
            refine wpAnyH_done (by kernel_rfl) ?_ _
            clear hkeep C5 hHeld6 I5 r0 r1 r2 p0 p1 p2
            have hs5 := HI5.out.size
            have hwwo := HB.out.2.1
            have hs5a : wo.heap.size < w5.heap.size := by omega
            have q3 := cell_of_heap (x := 3) HI5.out.rule
            have q4 := cell_of_heap (x := 4) HI5.out.rule
            have q5 := cell_of_heap (x := 5) HI5.out.rule
            simp [RuleV.cells] at q3 q4 q5
            obtain ⟨base, hbase⟩ : ∃ base, Hid (base = idT ⟨rid, rpre, ron, rd, rn, ra⟩ ++ [statusT ⟨rid, rpre, ron, rd, rn, ra⟩, filterT ⟨rid, rpre, ron, rd, rn, ra⟩]) := ⟨_, rfl⟩
            rw [← hbase.out] at HI5
            have hbl2 : Hid (base.length ≤ 10) := by show _ ≤ _; rw [hbase.out]; unfold idT; split <;> simp
            go_wp2
            go_loopg [62] 4 (fun gg s62 wr => ∃ (j : Nat) (v : Value), j ≤ 3 ∧ 3 - j ≤ gg ∧ s62 = .int .i64 j ∧ Hid (Inn wo wr ⟨rid, rpre, ron, rd, rn, ra⟩ (base ++ daysTo rd rn ra j) v) ∧
              Hid (wr.heap[w5.heap.size]? = some (.cells (arrV rd rn ra).toArray 66 (0, 0))) ∧ Hid (∀ g, v.ownBlock = some g → g ≠ w5.heap.size))
            case atStart =>
              refine ⟨0, v5, by omega, by omega, rfl, (show Hid _ from ?_), (show Hid _ from heap_at _ _ rfl), (show Hid _ from fun g hg => by have := (HI5.out.grow.own_lt hg).2; omega)⟩
              rw [show base ++ daysTo rd rn ra 0 = base from by simp [daysTo]]
              exact HI5.out.later (below_alloc (Below.refl _ _) (Nat.le_refl _) _)
            case round =>
              obtain ⟨j, v, hj3, hgg2, rfl, HI, HA, HV⟩ := hrel
              have hsr := HI.out.size
              have hsa := (Array.getElem?_eq_some_iff.1 HA.out).1
              by_cases hlt2 : j < 3
              · obtain ⟨nm, kd, n, HARR, a0, a1, a2, hnm, hkd, hnn⟩ : ∃ nm kd n, Hid (daysTo rd rn ra (j + 1) = daysTo rd rn ra j ++ daysT nm kd n) ∧ wr.cell? ⟨w5.heap.size, j * 3, none⟩ = some (.string ⟨nm.toArray⟩) ∧ wr.cell? ⟨w5.heap.size, j * 3 + 1, none⟩ = some (.string ⟨kd.toArray⟩) ∧ wr.cell? ⟨w5.heap.size, j * 3 + 2, none⟩ = some (.int .i64 n) ∧ nm.length ≤ 100 ∧ kd.length ≤ 100 ∧ IntOK n := by
                  simp only [cell_of_heap HA.out]
                  have : j = 0 ∨ j = 1 ∨ j = 2 := by omega
                  rcases this with rfl | rfl | rfl
                  · exact ⟨tExp, tDays, rd, rfl, rfl, rfl, rfl, by decide, by decide, HInts.out.1⟩
                  · exact ⟨tNon, tNonDays, rn, rfl, rfl, rfl, rfl, by decide, by decide, HInts.out.2.1⟩
                  · exact ⟨tAbort, tAfter, ra, rfl, rfl, rfl, rfl, by decide, by decide, HInts.out.2.2⟩
                have HNN := Lib.hid hnn
                clear hnn
                by_cases hn : 0 < n
                · have HARR2 : Hid (daysTo rd rn ra (j + 1) = daysTo rd rn ra j ++ [.node ⟨nm.toArray⟩ ⟨#[]⟩ [leafT kd ⟨(Lib.itoa n).toArray⟩]]) := by
                    show _ = _
                    rw [HARR.out]; unfold daysT; rw [if_pos hn]
                  go_wp2_with fail
                  have p0 : (wr.alloc (.cells #[.string ⟨nm.toArray⟩, .string ⟨kd.toArray⟩, .int .i64 n] 66)).cell? ⟨wr.heap.size, 0, none⟩ = some (.string ⟨nm.toArray⟩) := cell_new _ _ _ _ _ _ rfl rfl
                  have p1 : (wr.alloc (.cells #[.string ⟨nm.toArray⟩, .string ⟨kd.toArray⟩, .int .i64 n] 66)).cell? ⟨wr.heap.size, 1, none⟩ = some (.string ⟨kd.toArray⟩) := cell_new _ _ _ _ _ _ rfl rfl
                  have p2 : (wr.alloc (.cells #[.string ⟨nm.toArray⟩, .string ⟨kd.toArray⟩, .int .i64 n] 66)).cell? ⟨wr.heap.size, 2, none⟩ = some (.int .i64 n) := cell_new _ _ _ _ _ _ rfl rfl
                  refine wp_region_held_drew (S := (fun w' => w'.cell? ⟨wr.heap.size, 0, none⟩ = some (.string ⟨nm.toArray⟩) ∧ w'.cell? ⟨wr.heap.size, 1, none⟩ = some (.string ⟨kd.toArray⟩) ∧ w'.cell? ⟨wr.heap.size, 2, none⟩ = some (.int .i64 n))) (by kernel_rfl) ⟨p0, p1, p2⟩ (fun hHeld => ?_)
                  refine wpAnyH_take (i := 0) (oi := { dst := some 69, op := _, type := _, pos := _, after := _, guard := _ }) (v := ?_) rfl (by kernel_rfl) (by kernel_rfl) (by kernel_rfl) (fun _ _ _ h => h) (Or.inl ⟨by kernel_rfl, ?_⟩) (by assumption) ?_
                  rotate_left
                  · (intro w hSw; (try dsimp only at hSw); go_simp); all_goals (with_reducible rfl)
                  try simp only [Act.put, List.setIfInBounds_toArray, List.set_cons_zero, List.set_cons_succ]
                  refine wpAnyH_take (i := 1) (oi := { dst := some 70, op := _, type := _, pos := _, after := _, guard := _ }) (v := ?_) rfl (by kernel_rfl) (by kernel_rfl) (by kernel_rfl) (fun _ _ _ h => h) (Or.inl ⟨by kernel_rfl, ?_⟩) (by assumption) ?_
                  rotate_left
                  · (intro w hSw; (try dsimp only at hSw); go_simp); all_goals (with_reducible rfl)
                  try simp only [Act.put, List.setIfInBounds_toArray, List.set_cons_zero, List.set_cons_succ]
                  refine wpAnyH_take (i := 2) (oi := { dst := some 71, op := _, type := _, pos := _, after := _, guard := _ }) (v := ?_) rfl (by kernel_rfl) (by kernel_rfl) (by kernel_rfl) (fun _ _ _ h => h) (Or.inl ⟨by kernel_rfl, ?_⟩) (by assumption) ?_
                  rotate_left
                  · (intro w hSw; (try dsimp only at hSw); go_simp); all_goals (with_reducible rfl)
                  try simp only [Act.put, List.setIfInBounds_toArray, List.set_cons_zero, List.set_cons_succ]
                  refine wpAnyH_take (i := 3) (oi := { dst := some 72, op := _, type := _, pos := _, after := _, guard := _ }) (v := ?_) rfl (by kernel_rfl) (by kernel_rfl) (by kernel_rfl) (fun _ _ _ h => h) (Or.inl ⟨by kernel_rfl, ?_⟩) (by assumption) ?_
                  rotate_left
                  · (intro w hSw; (try dsimp only at hSw); go_simp); all_goals (with_reducible rfl)
                  try simp only [Act.put, List.setIfInBounds_toArray, List.set_cons_zero, List.set_cons_succ]
                  refine wpAnyH_take (i := 4) (oi := { dst := some 73, op := _, type := _, pos := _, after := _, guard := _ }) (v := ?_) rfl (by kernel_rfl) (by kernel_rfl) (by kernel_rfl) (fun _ _ _ h => h) (Or.inl ⟨by kernel_rfl, ?_⟩) (by assumption) ?_
                  rotate_left
                  · (intro w hSw; (try dsimp only at hSw); go_simp); all_goals (with_reducible rfl)
                  try simp only [Act.put, List.setIfInBounds_toArray, List.set_cons_zero, List.set_cons_succ]
                  refine wpAnyH_take (i := 5) (oi := { dst := some 74, op := _, type := _, pos := _, after := _, guard := _ }) (v := ?_) rfl (by kernel_rfl) (by kernel_rfl) (by kernel_rfl) (fun _ _ _ h => h) (Or.inl ⟨by kernel_rfl, ?_⟩) (by assumption) ?_
                  rotate_left
                  · (intro w hSw; (try dsimp only at hSw); go_simp); all_goals (with_reducible rfl)
                  try simp only [Act.put, List.setIfInBounds_toArray, List.set_cons_zero, List.set_cons_succ]
                  refine wpAnyH_take (i := 6) (oi := { dst := some 75, op := _, type := _, pos := _, after := _, guard := _ }) (v := ?_) rfl (by kernel_rfl) (by kernel_rfl) (by kernel_rfl) (fun _ _ _ h => h) (Or.inl ⟨by kernel_rfl, ?_⟩) (by assumption) ?_
                  rotate_left
                  · (intro w hSw; (try dsimp only at hSw); go_simp); all_goals (with_reducible rfl)
                  try simp only [Act.put, List.setIfInBounds_toArray, List.set_cons_zero, List.set_cons_succ]
                  refine wpAnyH_take (i := 7) (oi := { dst := some 76, op := _, type := _, pos := _, after := _, guard := _ }) (v := ?_) rfl (by kernel_rfl) (by kernel_rfl) (by kernel_rfl) (fun _ _ _ h => h) (Or.inl ⟨by kernel_rfl, ?_⟩) (by assumption) ?_
                  rotate_left
                  · (intro w hSw; (try dsimp only at hSw); go_simp); all_goals (with_reducible rfl)
                  try simp only [Act.put, List.setIfInBounds_toArray, List.set_cons_zero, List.set_cons_succ]
                  refine wpAnyH_ready (rs := [8]) (by kernel_rfl) (by simp) ?_
                  refine AllReadyH.cons rfl (fun K hK => ?_) AllReadyH.nil
                  rw [if_pos (by kernel_rfl)]
                  go_wp2_with fail
                  refine (itoa_any n HNN.out _ (HG.out.later (HB.out.1.trans ((HI.out.below.mono (by omega)).trans ((below_alloc (Below.refl _ _) (by omega) _).drew))))).mono ?_
                  rintro e w6 ⟨rfl, hb6⟩
                  go_wp2_with fail
                  have B6 : Hid (Below wr.heap.size wr w6) := (below_alloc (Below.refl _ _) (Nat.le_refl _) _).drew.trans (Below.mono hb6 (by simp))
                  have p0' : w6.cell? ⟨wr.heap.size, 0, none⟩ = _ := cell_later hb6 p0
                  have p1' : w6.cell? ⟨wr.heap.size, 1, none⟩ = _ := cell_later hb6 p1
                  have p2' : w6.cell? ⟨wr.heap.size, 2, none⟩ = _ := cell_later hb6 p2
                  refine hK.out _ _ ⟨p0', p1', p2'⟩ (fun hHeld6 => ?_)
                  clear hK K hHeld hb6 p0 p1 p2
                  try simp only [Act.put, List.setIfInBounds_toArray, List.set_cons_zero, List.set_cons_succ]
                  refine wpAnyH_ready (rs := [9]) (by kernel_rfl) (by simp) ?_
                  refine AllReadyH.cons rfl (fun K hK => ?_) AllReadyH.nil
                  rw [if_pos (by kernel_rfl)]
                  go_wp2_with fail
                  refine (text_any _ _ _).mono ?_
                  rintro e w7 ⟨rfl, hb7⟩
                  go_wp2_with fail
                  have s6 := World.block_lt_of_cell? w6 _ p0'
                  simp only at s6
                  have B7 : Hid (Below wr.heap.size wr w7) := B6.out.trans (hb7.mono (by omega))
                  have p0 : w7.cell? ⟨wr.heap.size, 0, none⟩ = _ := cell_later hb7 p0'
                  have p1 : w7.cell? ⟨wr.heap.size, 1, none⟩ = _ := cell_later hb7 p1'
                  have p2 : w7.cell? ⟨wr.heap.size, 2, none⟩ = _ := cell_later hb7 p2'
                  have s7 := World.block_lt_of_cell? w7 _ p0
                  simp only at s7
                  refine hK.out _ _ ⟨p0, p1, p2⟩ (fun hHeld7 => ?_)
                  clear hK K hHeld6 hb7 p0' p1' p2'
                  try simp only [Act.put, List.setIfInBounds_toArray, List.set_cons_zero, List.set_cons_succ]
                  refine wpAnyH_ready (rs := [10]) (by kernel_rfl) (by simp) ?_
                  refine AllReadyH.cons rfl (fun K hK => ?_) AllReadyH.nil
                  rw [if_pos (by kernel_rfl)]
                  go_wp2_with fail
                  refine hK.out _ _ ⟨cell_past _ p0, cell_past _ p1, cell_past _ p2⟩ (fun hHeld8 => ?_)
                  clear hK K hHeld7
                  try simp only [Act.put, List.setIfInBounds_toArray, List.set_cons_zero, List.set_cons_succ]
                  refine wpAnyH_take (i := 11) (oi := { dst := some 80, op := _, type := _, pos := _, after := _, guard := _ }) (v := ?_) rfl (by kernel_rfl) (by kernel_rfl) (by kernel_rfl) (fun _ _ _ h => h) (Or.inl ⟨by kernel_rfl, ?_⟩) (by assumption) ?_
                  rotate_left
                  · (intro w hSw; (try dsimp only at hSw); go_simp); all_goals (with_reducible rfl)
                  try simp only [Act.put, List.setIfInBounds_toArray, List.set_cons_zero, List.set_cons_succ]
                  refine wpAnyH_ready (rs := [12]) (by kernel_rfl) (by simp) ?_
                  refine AllReadyH.cons rfl (fun K hK => ?_) AllReadyH.nil
                  rw [if_pos (by kernel_rfl)]
                  go_wp2_with fail
                  refine hK.out _ _ ⟨cell_past _ (cell_past _ p0), cell_past _ (cell_past _ p1), cell_past _ (cell_past _ p2)⟩ (fun hHeld9 => ?_)
                  clear hK K hHeld8
                  try simp only [Act.put, List.setIfInBounds_toArray, List.set_cons_zero, List.set_cons_succ]
                  refine wpAnyH_ready (rs := [13]) (by kernel_rfl) (by simp) ?_
                  refine AllReadyH.cons rfl (fun K hK => ?_) AllReadyH.nil
                  rw [if_pos (by kernel_rfl)]
                  go_wp2_with fail
                  have hvo : ∀ b, wr.heap.size ≤ b → some b ≠ v.ownBlock := fun b hb e => by have := (HI.out.grow.own_lt e.symm).2; omega
                  have hvl : (base ++ daysTo rd rn ra j).length ≤ 1000 := by
                    have := hbl2.out
                    have := daysTo_len rd rn ra j
                    simp; omega
                  refine (put_one wo (w7.alloc (.cells #[.string ⟨kd.toArray⟩, .string ⟨(Lib.itoa n).toArray⟩, .slice none 0 0] 24)) ⟨rid, rpre, ron, rd, rn, ra⟩ (base ++ daysTo rd rn ra j) v (.node ⟨nm.toArray⟩ ⟨#[]⟩ [leafT kd ⟨(Lib.itoa n).toArray⟩]) _ _ _ (fun b => b = w7.heap.size) (HI.out.later (below_alloc B7.out (Nat.le_refl _) _))
                    (days_on w7 nm kd n hnm hkd HNN.out) (fun b hb => by subst hb; exact ⟨by omega, by simp, hvo _ (by omega)⟩) hvl _ (by simp)).mono ?_
                  rintro e w8 ⟨rfl, ⟨v8, I8, O8⟩, C8⟩
                  have hkeep : ∀ b o, b < w7.heap.size → b ≠ wo.heap.size + 1 → some b ≠ v.ownBlock → w8.cell? ⟨b, o, none⟩ = w7.cell? ⟨b, o, none⟩ := fun b o h1 h2 h3 => by
                    refine (World.cell?_of_block (w := (w7.alloc _).alloc _) (C8.block _ (by simp; omega) (fun h => ?_))).trans ((World.cell?_alloc_lt _ _ _ (by simp; omega)).trans (World.cell?_alloc_lt _ _ _ (by simp; omega)))
                    rcases h with h | h
                    · exact h2 h
                    · exact h3 h
                  have HA8 : Hid (w8.heap[w5.heap.size]? = some (.cells (arrV rd rn ra).toArray 66 (0, 0))) := by
                    show _ = _
                    rw [C8.block _ (by simp; omega) (fun h => by
                      rcases h with h | h
                      · omega
                      · exact HV.out _ h.symm rfl), Below.heap_alloc _ _ _ (by simp; omega), Below.heap_alloc _ _ _ (by omega), B7.out.block _ hsa]
                    exact HA.out
                  have HV8 : Hid (∀ g, v8.ownBlock = some g → g ≠ w5.heap.size) := fun g hg => by
                    rcases O8 g hg with h | h
                    · exact HV.out g h
                    · simp at h; omega
                  have HI8 : Hid (Inn wo w8 ⟨rid, rpre, ron, rd, rn, ra⟩ (base ++ daysTo rd rn ra (j + 1)) v8) := by
                    show Inn _ _ _ _ _
                    rw [HARR2.out, ← List.append_assoc]
                    exact I8
                  go_wp2_with fail
                  refine hK.out _ _ ⟨(hkeep _ 0 s7 (by omega) (hvo _ (Nat.le_refl _))).trans p0, (hkeep _ 1 s7 (by omega) (hvo _ (Nat.le_refl _))).trans p1, (hkeep _ 2 s7 (by omega) (hvo _ (Nat.le_refl _))).trans p2⟩ (fun hHeld10 => ?_)
                  clear hK K hHeld9 hkeep C8 I8 O8 p0 p1 p2
                  try simp only [Act.put, List.setIfInBounds_toArray, List.set_cons_zero, List.set_cons_succ]
                  refine wpAnyH_done (by kernel_rfl) ?_ _
                  clear hHeld10
                  go_wp2
                  go_roundg (3 - (j + 1))
                  case measure => omega
                  case rel => exact ⟨j + 1, v8, by omega, Nat.le_refl _, by go_num, HI8, HA8, HV8⟩
                · have HARR2 : Hid (daysTo rd rn ra (j + 1) = daysTo rd rn ra j) := by
                    show _ = _
                    rw [HARR.out]; unfold daysT; rw [if_neg hn]; simp
                  go_wp2
                  go_roundg (3 - (j + 1))
                  case measure => omega
                  case rel =>
                    refine ⟨j + 1, v, by omega, Nat.le_refl _, by go_num, (show Hid _ from ?_), (show Hid _ from ?_), HV⟩
                    · rw [HARR2.out]; exact HI.out.later (below_alloc (Below.refl _ _) (Nat.le_refl _) _)
                    · rw [Below.heap_alloc _ _ _ hsa]; exact HA.out
              · obtain rfl : j = 3 := by omega
                have GE : Hid (Grow wr (w.heap.size + 2) (w.heap.size + 1) ⟨tConf.toArray⟩ ((l.take i).map ruleT) ve) := HGr.out.later HI.out.below
                have x2 := cell_of_heap (x := 2) GE.out.box
                have fx := free_of_heap (x := 2) GE.out.box
                have y0 := cell_of_heap (x := 0) HI.out.grow.box
                have y1 := cell_of_heap (x := 1) HI.out.grow.box
                have y2 := cell_of_heap (x := 2) HI.out.grow.box
                simp at x2 y0 y1 y2
                obtain ⟨xs, ok3, ho, hr, hok3⟩ := GE.out.row
                obtain ⟨okk, htree, hokk⟩ := HI.out.grow.tree (by unfold maxRead; simp [ByteArray.size, tRule]) (by have := hbl2.out; have := daysTo_len rd rn ra 3; simp; omega)
                have HTREE := Lib.hid htree
                have HRO := Lib.hid hr
                have HOK3 := Lib.hid hok3
                have HOO := Lib.hid ho
                have HOKK := Lib.hid hokk
                have hlen : ((l.take i).map ruleT).length ≤ 2199023255552 := by simp; omega
                have hwz : w.heap.size + 2 ≤ wr.heap.size := by have := HB.out.2.1; omega
                have hwz1 : w.heap.size + 1 < wr.heap.size := by omega
                have hkl1 : wo.heap.size + 1 < wr.heap.size := by omega
                clear ho hr hok3 htree hokk
                go_wp2_with (at_builtin; refine wpList_append_lies _ rfl _ _ 22 rfl (w.heap.size + 2) 24 i0 _ 3 56 Tryd.underlying22 hi hz0 hz1 hz2 rfl (by decide) ve ((l.take i).map ruleT).length xs rfl (HOO.out.alloc _) ⟨wr.heap.size, 0, none⟩ 1 1 [.string ⟨tRule.toArray⟩, .string ⟨#[]⟩, v] rfl rfl ?d1 ?d2 (by decide) ?d3 ?d4 ?d5 _ rfl ?_)
                case d1 => exact fun j u hj => cells_new _ _ _ _ _ (by simpa using hj)
                case d2 => intro u hu; simp at hu; rcases hu with rfl | rfl | rfl; rfl; rfl; exact HTREE.out.oneCell.2.2
                case d3 => simp only [maxLen]; omega
                case d4 => omega
                case d5 => simp; omega
                intro g cap w7 hown hgr hat hlt7
                have hne : ∀ b, b < wr.heap.size → b < w.heap.size + 2 → some b ≠ ve.ownBlock := fun b h1 h2 e => by have := (GE.out.own_lt e.symm).1; omega
                have z2 : w7.cell? ⟨w.heap.size + 1, 2, none⟩ = some ve := hgr.cell (cell_past _ x2) (hne (w.heap.size + 1) (by omega) (by omega))
                have zf : w7.frozen? ⟨w.heap.size + 1, 2, none⟩ = false := by rw [hgr.frozen_far _ (by simp; omega) (hne (w.heap.size + 1) (by omega) (by omega))]; exact free_past _ (by simp; omega) fx
                have hah : Below wr.heap.size wr (wr.alloc (.cells #[.string ⟨tRule.toArray⟩, .string ⟨#[]⟩, v] 24)) := below_alloc (Below.refl _ _) (Nat.le_refl _) _
                have HLN : Hid (((l.take i).map ruleT).length = i) := by show _ = _; simp; omega
                have hp := Grow.push (cap := cap) (ks2 := [ruleT ⟨rid, rpre, ron, rd, rn, ra⟩]) (w' := w7.setCell ⟨w.heap.size + 1, 2, none⟩ (.slice (some ⟨g, 0, none⟩) (i + 1) cap)) (GE.out.later hah)
                  (RowOf.kept (fun b hb _ => hah.block b hb) (fun _ _ h => h) HRO.out) (fun b hb => ⟨(HOK3.out b hb).1, Nat.lt_of_lt_of_le (HOK3.out b hb).2.1 hah.size, (HOK3.out b hb).2.2⟩)
                  (RowOf.one (TreeOn.kept (fun b hb _ => hah.block b hb) (fun _ _ h => h) (ruleT ⟨rid, rpre, ron, rd, rn, ra⟩) _ _ _ (by
                    have e : ruleT ⟨rid, rpre, ron, rd, rn, ra⟩ = .node ⟨tRule.toArray⟩ ⟨#[]⟩ (base ++ daysTo rd rn ra 3) := by rw [hbase.out]; simp [ruleT, daysTo]
                    rw [e]; exact HTREE.out))) (fun b hb => ⟨by have := (HOKK.out b hb).1; omega, Nat.lt_of_lt_of_le (HOKK.out b hb).2 hah.size, fun e => by have := (HGr.out.own_lt e.symm).2; have := (HOKK.out b hb).1; omega⟩)
                  (by rw [HLN.out]; exact hown) hgr (hat.imp (fun h => h) (fun h => by simpa using h)) hlt7 (by rw [HLN.out]; rfl)
                rw [HLN.out] at hp
                have HP := Lib.hid hp
                clear hp
                have HB7 : Hid (Below w.heap.size w (w7.setCell ⟨w.heap.size + 1, 2, none⟩ (.slice (some ⟨g, 0, none⟩) (i + 1) cap)) ∧ w.heap.size + 2 ≤ (w7.setCell ⟨w.heap.size + 1, 2, none⟩ (.slice (some ⟨g, 0, none⟩) (i + 1) cap)).heap.size ∧ (w7.setCell ⟨w.heap.size + 1, 2, none⟩ (.slice (some ⟨g, 0, none⟩) (i + 1) cap)).heap[w.heap.size]? = some (.cells #[.string ⟨#[]⟩, .string ⟨#[]⟩, .slice none 0 0] 24 (0, 0))) := by
                  have hM : ∀ k, (k = w.heap.size + 1 ∨ some k = ve.ownBlock) → w.heap.size + 1 ≤ k := fun k hk => by
                    rcases hk with h | h
                    · omega
                    · have := (GE.out.own_lt h.symm).1; omega
                  have hC := HP.out.2
                  refine ⟨(HB.out.1.trans ((HI.out.below.mono (by omega)).trans (hah.mono (by omega)))).trans (hC.below (by simp; omega) (fun k hk => by have := hM k hk; omega)), by have h1 := hC.size; have h2 := hah.size; omega, ?_⟩
                  rw [hC.block _ (by simp; omega) (fun h => by have := hM _ h; omega), hah.block _ (by omega), HI.out.below.block _ (by omega)]
                  exact HB.out.2.2
                have HG7 : Hid (Grow (w7.setCell ⟨w.heap.size + 1, 2, none⟩ (.slice (some ⟨g, 0, none⟩) (i + 1) cap)) (w.heap.size + 2) (w.heap.size + 1) ⟨tConf.toArray⟩ ((l.take (i + 1)).map ruleT) (.slice (some ⟨g, 0, none⟩) (i + 1) cap)) := by
                  have e : (l.take (i + 1)).map ruleT = (l.take i).map ruleT ++ [ruleT ⟨rid, rpre, ron, rd, rn, ra⟩] := by rw [List.take_add_one, HR.out]; simp
                  show Grow _ _ _ _ _ _
                  rw [e]; exact HP.out.1
                clear hown hgr hat hlt7 hne hah
                go_wp2
                go_roundg (l.length - (i + 1))
                case measure => omega
                case rel => exact ⟨i + 1, _, by omega, Nat.le_refl _, by go_num, HG7, HB7⟩
    · obtain rfl : i = l.length := by omega
      have hsz2 := HGr.out.kb_lt
      obtain ⟨xs, ok, ho, hr, hok2⟩ := HGr.out.row
      have HRow := Lib.hid hr
      have HOwn := Lib.hid ho
      obtain ⟨av, nv, cv, rfl⟩ : ∃ a n c, ve = .slice a n c := by
        rcases ho.2 with ⟨h1, h2⟩ | ⟨g, cap, cur, h1, _⟩
        · exact ⟨_, _, _, h1⟩
        · exact ⟨_, _, _, h1⟩
      clear ho hr hok2
      go_wp2_with (first
        | (refine wpList_load_row (by rfl) 24 _ (by rfl) (w.heap.size + 1) (by rfl) 24 _ (0, 0) _ (by exact HGr.out.box) Tryd.underlying24 rfl (by kernel_rfl) ?_)
        | (refine wpList_store_row (by rfl) 24 _ _ (by rfl) w.heap.size _ (by rfl) (by rfl) 24 _ (by exact HB.out.2.2) (by kernel_rfl) (by kernel_rfl) (by kernel_rfl) ?_))
      refine bodyPost_ret (results_cell1 rfl _ _ w.heap.size 24 _ _ rfl (setRow_heap _ _ _ _ _ _ HB.out.2.2) Tryd.underlying24 rfl (by kernel_rfl)) rfl ?_
      obtain ⟨okk, htree, hokk⟩ := HGr.out.tree (by unfold maxRead; simp [ByteArray.size, tConf]) (by simp; omega)
      rw [List.take_of_length_le (Nat.le_refl _)] at htree
      refine ⟨_, _, _, rfl, TreeOn.to_in _ _ _ _ (TreeOn.kept (ok' := fun _ => True) (fun b hb hob => setRow_other _ _ _ _ (by have := (hokk b hob).1; omega)) (fun _ _ _ => trivial) _ _ _ _ htree), ?_⟩
      exact below_one_row _ _ _ _ _ HB.out.1 (Nat.le_refl _)

end Go.Proofs.YtnnfcbebjbfkoaaDoor
