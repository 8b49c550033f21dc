/-
  SEVERAL SMALL TEXTS IN ONE.
-/
import Derived.Test.YtgmgghbocidibaaGreatDoorRows
import Derived.Test.YtgmgghbocidibaaGreatDoorSm20
import Derived.Lib.LaidTab
import Derived.Test.YtgmgghbocidibaaGreatDoorSm43
import Derived.ProofKit
import Derived.OpenShut
import Derived.Below
import Derived.ChangeSame
import Derived.Deep.DeepHandedRow
import Derived.Lay
import Derived.Test.YtgmgghbocidibaaGreatDoorSm33
import Derived.Test.YtgmgghbocidibaaGreatDoorXmWith
import Derived.Lib.LaidU8
/-
  FOR A PROOF OF AN '..UptoSaid': WHAT THE BOUND GIVES. Copy it as <Name>Bulk.lean (put your seat's Name for YtgmgghbocidibaaGreatDoor, the bound of 'uptoSmall' for 1048576), name it in GOCLAIM.json's 'order' behind <Name>Rows. By an AI agent, Sun Nov 15 2026. No person has read it. No macro, syntax, notation, axiom, sorry.
-/
namespace Go.Proofs.YtgmgghbocidibaaGreatDoor.bulks

theorem one_le {H : Type} (d : DataW H) : 1 ≤ Rows.uptoBulk d := by
  cases d with
  | lit l => cases l <;> simp [Rows.uptoBulk]
  | nil => simp [Rows.uptoBulk]
  | ptr d => simp [Rows.uptoBulk]
  | slice elems spare => simp [Rows.uptoBulk]
  | agg parts => simp [Rows.uptoBulk]
  | iface t d => simp [Rows.uptoBulk]
  | map entries => simp [Rows.uptoBulk]
  | held h => simp [Rows.uptoBulk]

/-- a part's bulk is at most the whole's -/
theorem part_le {H : Type} {d : DataW H} {l : List (DataW H)} (h : d ∈ l) : Rows.uptoBulk d ≤ Rows.uptoBulkAll l := by
  induction l with
  | nil => cases h
  | cons x r ih =>
    simp only [Rows.uptoBulkAll]
    cases List.mem_cons.1 h with
    | inl e => subst e; omega
    | inr e => have := ih e; omega

theorem append {H : Type} (l r : List (DataW H)) : Rows.uptoBulkAll (l ++ r) = Rows.uptoBulkAll l + Rows.uptoBulkAll r := by
  induction l with
  | nil => simp [Rows.uptoBulkAll]
  | cons x l ih => simp only [List.cons_append, Rows.uptoBulkAll, ih]; omega

/-- so many values at the most -/
theorem length_le {H : Type} (l : List (DataW H)) : l.length ≤ Rows.uptoBulkAll l := by
  induction l with
  | nil => simp [Rows.uptoBulkAll]
  | cons x r ih => have := one_le x; simp only [Rows.uptoBulkAll, List.length_cons]; omega

/-- a slice's places, and what they hold -/
theorem slice_le {H : Type} (elems spare : List (DataW H)) : elems.length + spare.length + 1 ≤ Rows.uptoBulk (.slice elems spare) := by
  have h1 := length_le elems
  have h2 := length_le spare
  simp only [Rows.uptoBulk]
  omega
theorem slice_elems {H : Type} (elems spare : List (DataW H)) : Rows.uptoBulkAll elems + 1 ≤ Rows.uptoBulk (.slice elems spare) := by
  simp only [Rows.uptoBulk]
  omega

/-- a string's letters -/
theorem string_eq {H : Type} (bytes : List UInt8) : Rows.uptoBulk (DataW.lit (H := H) (.string bytes)) = bytes.length + 1 := by
  simp [Rows.uptoBulk]

/-- THE BOUND, as the builder hands it over ('hk') -/
theorem bound {H : Type} {l : List (DataW H)} (hk : Rows.uptoSmall H l = true) : Rows.uptoBulkAll l ≤ 1048576 := by
  simpa [Rows.uptoSmall] using hk

/-- ROOM: a slice of n elements of b bytes, grown by append: below the 2^48 bytes that append, make and a Builder bear. Here n up to 2^21, b up to 4,096: put your own numbers. -/
theorem room {n b : Nat} (hn : n ≤ 2097152) (hb : b ≤ 4096) : (n + n / 4 + 192) * b ≤ 281474976710656 := by
  have h : (n + n / 4 + 192) * b ≤ 2621632 * 4096 := Nat.mul_le_mul (by omega) hb
  omega

end Go.Proofs.YtgmgghbocidibaaGreatDoor.bulks

/-
  WHAT THE ROW's LIST GIVES of the package-level variables (chapter 16).
-/
namespace Go.Proofs.YtgmgghbocidibaaGreatDoor
open Go.RowKit

def laidAll : List (String × DataW Unit) := [("math/bits.deBruijn32tab", Rows.laid_math_bits_deBruijn32tab), ("math/bits.deBruijn64tab", Rows.laid_math_bits_deBruijn64tab), ("internal/strconv.uint64pow10", Rows.laid_internal_strconv_uint64pow10), ("unicode/utf8.acceptRanges", Rows.laid_unicode_utf8_acceptRanges), ("strconv.ErrRange", Rows.laid_strconv_ErrRange), ("strconv.ErrSyntax", Rows.laid_strconv_ErrSyntax), ("unicode/utf8.first", Rows.laid_unicode_utf8_first)]

theorem laidMet_tail {P : Program} {W : World} {x : String × DataW Unit} {rest : List (String × DataW Unit)} (h : laidMet P (x :: rest) W) : laidMet P rest W := by
  obtain ⟨ps, ⟨g', t', cs, fuel, p, q, hg', ht', hvar, hd, hr, rfl⟩, hn, ha⟩ := h
  exact ⟨q, hr, (List.nodup_append.1 hn).2.1, fun b off hm => ha b off (List.mem_append_right _ hm)⟩

/-- a sentinel: the variable holds an error -/
theorem err_of_head {P : Program} {W : World} {name nm : String} {d : DataW Unit} {rest : List (String × DataW Unit)} {g : Nat} {t : TypeId} {ms : Array (String × TypeId)}
    (hg : P.globalNamed name = some g) (hty : (P.globals[g]?).map (·.type) = some t) (ht : P.underlying t = some (.interface ms)) (h : laidMet P ((name, .iface nm d) :: rest) W) :
    ∃ te pe, W.cell? ⟨g, 0, none⟩ = some (.iface te pe) := by
  obtain ⟨ps, ⟨g', t', cs, fuel, p, q, hg', ht', hvar, hd, _, _⟩, _⟩ := h
  obtain rfl := Option.some.inj (hg.symm.trans hg')
  obtain rfl := Option.some.inj (hty.symm.trans ht')
  have hone : ∃ te pe, cs.toList = [.iface te pe] := by
    cases fuel with
    | zero => simp [DataW.trod] at hd
    | succ fuel =>
      unfold DataW.trod at hd
      split at hd
      all_goals first | (simp_all; done) | skip
      all_goals exact ⟨_, _, by assumption⟩
  obtain ⟨te, pe, hcs⟩ := hone
  refine ⟨te, pe, ?_⟩
  have hc : cs = #[.iface te pe] := by cases cs; simp_all
  subst hc
  exact World.var?_cell hg hvar 0

theorem glob_of_laid {W : World} (h : laidMetH Tryz.prog laidAll W) : Glob W := by
  have h0 : laidMet Tryz.prog laidAll W := h
  have h1 := laidMet_tail h0
  have h2 := laidMet_tail h1
  have h3 := laidMet_tail h2
  have h4 := laidMet_tail h3
  have h5 := laidMet_tail h4
  have t64 := Lib.tabIs_of_head (P := Tryz.prog) (W := W) (k := .u8) (zs := [0, 1, 56, 2, 57, 49, 28, 3, 61, 58, 42, 50, 38, 29, 17, 4, 62, 47, 59, 36, 45, 43, 51, 22, 53, 39, 33, 30, 24, 18, 12, 5, 63, 55, 48, 27, 60, 41, 37, 16, 46, 35, 44, 21, 52, 32, 23, 11, 54, 26, 40, 15, 34, 20, 31, 10, 25, 14, 19, 9, 13, 8, 7, 6])
    (g := 7) (t := 220) (e := 5) (by kernel_rfl) (by kernel_rfl) Tryz.underlying220 Tryz.underlying5 (by kernel_rfl) (by kernel_rfl) h1
  have tp := Lib.tabIs_of_head (P := Tryz.prog) (W := W) (k := .u64) (zs := Lib.pow10Tab) (g := 5) (t := 215) (e := 164) (by kernel_rfl) (by kernel_rfl) Tryz.underlying215 Tryz.underlying164 (by kernel_rfl) (by kernel_rfl) h2
  have c64 := t64.cell (g := 7) (by kernel_rfl) 15 (by decide)
  refine ⟨?_, c64, tp, err_of_head (g := 3) (t := 30) (by kernel_rfl) (by kernel_rfl) Tryz.underlying30 h5, err_of_head (g := 4) (t := 30) (by kernel_rfl) (by kernel_rfl) Tryz.underlying30 h4⟩
  have := World.block_lt_of_cell? W _ c64
  simp only at this
  omega

end Go.Proofs.YtgmgghbocidibaaGreatDoor

/-
  WHAT ALL ROWS OF THIS SEAT SHARE: the end of a law's row where the call only made memory; the witness' world; what the list gives.
-/
namespace Go.Proofs.YtgmgghbocidibaaGreatDoor
open Go.ChangeShapes Go.WideShapes Go.ChangeAt Go.RowKit

/-- the end of a law's row: what was there stays, so the arguments read as they did -/
theorem post_of_below {H : Type} {enc : TypeId × Value → H} {P : Program} {f : Func} {s : ChangeSpec} {apart fresh handsOn again : Bool} {W W' : World} {args : Array Value} {v : Value} {ds gs : List (DataW H)} {before pa pv : List MemPlace}
    (hW : DataW.Whole enc P f.params.toList s.vars apart W args.toList ds gs before)
    (hres : ∀ (b : Nat) (sp : Nat → Bool) (hd : Bool), DataW.TrodAll enc P W' b sp hd f.resultTypes.toList (v.resultList f.resultTypes.size) (s.fn H (ds ++ gs)).results [])
    (hargs : ∀ sp : Nat → Bool, (∀ p ∈ before, sp p.block = true) → DataW.TrodAll enc P W' 0 sp true f.params.toList args.toList (s.fn H (ds ++ gs)).args pa)
    (hvars : ∀ sp : Nat → Bool, (∀ p ∈ before, sp p.block = true) → DataW.TrodVars enc P W' sp s.vars (s.fn H (ds ++ gs)).vars pv)
    (hps : before = pa ++ pv) (hb : Below W.heap.size W W')
    (hok : ∀ (j : Nat) (t : TypeId) (r : Value), f.resultTypes[j]? = some t → (v.resultList f.resultTypes.size)[j]? = some r → Value.okWide P W' .any 0 t r) :
    s.post enc P f apart fresh handsOn again W args v W' := by
  have hlt : ∀ p ∈ before, p.block < W.heap.size := fun p hp => hW.lt p hp
  have hold : ∀ p ∈ before, (fun b => decide (b < W.heap.size)) p.block = true := fun p hp => by simpa using hlt p hp
  refine ⟨ds, gs, before, [], pa, pv, hW, hres _ _ _, hargs _ hold, hvars _ hold, World.keptBut_mono (fun p hp => ⟨hp, ?_⟩) (hb.frame (· ∈ before)), fun _ => ?_⟩
  · rw [hps, List.mem_append] at hp
    exact Or.inr hp
  · obtain ⟨_, _, _, _, _, hz, hn⟩ := hW
    refine ⟨hok, _, _, ([] ++ pa) ++ pv, ⟨[] ++ pa, pv, trodAll_append (hargs _ (fun _ _ => rfl)) (hres _ _ _), hvars _ (fun _ _ => rfl), rfl, ?_, ?_⟩, ?_⟩
    · intro b off hp
      have hin : MemPlace.cell b off ∈ before := by rw [hps]; simpa using hp
      rw [hb.frozen (hlt _ hin)]
      exact hz b off hin
    · intro ha
      have := hn ha
      rw [hps] at this
      simpa using this
    · intro p hp _
      rw [hps]
      simpa using hp

theorem weightsEach_get {H : Type} {P : Program} : ∀ (ts : List TypeId) (ds : List (DataW H)) (i : Nat) (t : TypeId) (d : DataW H), ts[i]? = some t → ds[i]? = some d → ∀ m ∈ DataW.weights P t d, m ∈ DataW.weightsEach P ts ds
  | [], _, _, _, _, h, _, _, _ => by cases h
  | _ :: _, [], _, _, _, _, h, _, _ => by cases h
  | t' :: ts, d' :: ds, 0, t, d, h, h', m, hm => by
    cases h; cases h'
    rw [DataW.weightsEach]
    exact List.mem_append_left _ hm
  | t' :: ts, d' :: ds, i + 1, t, d, h, h', m, hm => by
    rw [DataW.weightsEach]
    exact List.mem_append_right _ (weightsEach_get ts ds i t d h h' m hm)

theorem own : ownKnob Tryz.prog.godebug = none := by kernel_rfl
theorem laidOut : laidOutB Tryz.prog = true := by kernel_rfl

/-- an argument reads behind the call as it did, whatever is asked of spare places -/
theorem read_on {H : Type} {enc : TypeId × Value → H} {t : TypeId} (hr : Tryz.prog.readableRec t = true) (hrow : t < Tryz.prog.types.size) {W W' : World} {v : Value} {d : DataW H} {ps : List MemPlace} {sp : Nat → Bool}
    (h : DataW.Trod enc Tryz.prog W 0 (fun _ => true) true t v d ps) (hb : Below W.heap.size W W') (hlt : ∀ x ∈ ps, x.block < W.heap.size) (hs : ∀ x ∈ ps, sp x.block = true) :
    DataW.Trod enc Tryz.prog W' 0 sp true t v d ps :=
  WideElems.Trod_stays laidOut hr hrow h (fun x hx => hb.same (hlt x hx)) hs

/-- 'there is an input that fits', at a world that is written out -/
theorem witness_zip {H : Type} {enc : TypeId × Value → H} {C : Checked} {os : Os} {f : FuncId} {fn : Func} {s : OpenSpec} {conds : List PathCond} {apart : Bool} {laid : List (String × DataW Unit)} (w0 : World) (args : Array Value) (hos : w0.os = os)
    (hsh : (w0.forCall (fun _ _ => 0) ⟨#[], args, []⟩).Shaped C.prog)
    (hok : Input.okWideB C.prog (w0.forCall (fun _ _ => 0) ⟨#[], args, []⟩) f ⟨#[], args, []⟩ = true)
    (hrow : s.preRow enc C.prog fn conds apart laid (w0.forCall (fun _ _ => 0) ⟨#[], args, []⟩).memory args) :
    ∃ (w : World) (tape : Tape) (i : Input), w.os = os ∧ (w.forCall tape i).Shaped C.prog ∧ i.vars = [] ∧ Input.okWide C.prog (w.forCall tape i) .any w.heap.size f i ∧
      s.preRow enc C.prog fn conds apart laid (w.forCall tape i).memory i.args ∧ ({} : Assume).holds C.prog (lone (Frame.enter C.prog f i.args .normal) [] (w.forCall tape i)) :=
  ⟨w0, fun _ _ => 0, ⟨#[], args, []⟩, hos, hsh, (Input.okWide_of_okWideB (base := 0) hok).1, (Input.okWide_of_okWideB hok).2, hrow, by simp [Assume.holds]⟩

theorem laid_met (os : Os) (args : Array Value) : laidMet Tryz.prog laidAll ((World.laidAll Tryz.prog os laidAll).forCall (fun _ _ => 0) ⟨#[], args, []⟩).memory :=
  laidMet_laidAll _ (by kernel_rfl) (by kernel_rfl)

end Go.Proofs.YtgmgghbocidibaaGreatDoor

/-
  AN ELEMENT that is read as data is a tree, and a small one if the data is small; what the rows of this chapter share. (Printed by wip/gen/xmopen.py.)
-/
namespace Go.Proofs.YtgmgghbocidibaaGreatDoor
open Go.RowKit Go.Lib

theorem utf8First_is : Go.Pinned.utf8First = Lib.firstData := by kernel_rfl
theorem tabs_of_laid {W : World} (h : laidMetH Tryz.prog laidAll W) : Lib.Utf8Tabs 1 2 W := by
  have h0 : laidMet Tryz.prog laidAll W := h
  have hf : Lib.VarReads Tryz.prog W "unicode/utf8.first" Lib.firstData := utf8First_is ▸ Lib.laidMet.reads h0 (by simp [laidAll, Rows.laid_unicode_utf8_first])
  have ha : Lib.VarReads Tryz.prog W "unicode/utf8.acceptRanges" Lib.acceptData := Lib.laidMet.reads h0 (.tail _ (.tail _ (.tail _ (.head _))))
  exact utf8Tabs_of_reads Tryz.lays260 ⟨by kernel_rfl, by kernel_rfl, by kernel_rfl, by kernel_rfl, by kernel_rfl, by kernel_rfl, by kernel_rfl⟩ hf ha
theorem globX_of_laid {W : World} (h : laidMetH Tryz.prog laidAll W) : GlobX W := by
  have hg := glob_of_laid h
  have h1 : 7 < W.heap.size := World.block_lt_of_cell? W _ hg.tz
  exact ⟨hg, h1, tabs_of_laid h⟩
theorem bulk_elem {H : Type} {n tx : Bs} {d : DataW H} (h : Rows.uptoBulk (.agg [.lit (.string n), .lit (.string tx), d]) ≤ 4000000) : n.length ≤ 4000000 ∧ tx.length ≤ 4000000 ∧ Rows.uptoBulk d ≤ 4000000 := by
  simp only [Rows.uptoBulk, Rows.uptoBulkAll, bulks.string_eq] at h
  omega

set_option maxHeartbeats 400000 in
set_option maxRecDepth 100000 in
theorem open_treeX {H : Type} {enc : TypeId × Value → H} {W : World} {held : Bool} : ∀ (fuel : Nat) (cs : List Value) (x : DataW H × List MemPlace), DataW.trod enc Tryz.prog W 0 (fun _ => true) held fuel 24 cs = some x →
    (∀ n ∈ DataW.weights Tryz.prog 24 x.1, n ≤ reachBytes) → ∃ t a c, cs = [.string t.name, .string t.text, .slice a t.kids.length c] ∧ TreeIn W t (.string t.name) (.string t.text) (.slice a t.kids.length c) ∧ (Rows.uptoBulk x.1 ≤ 4000000 → SmT t)
  | 0, _, _, h, _ => by simp [DataW.trod] at h
  | fuel + 1, cs, x, h, hr => by
    obtain ⟨hl, xs, hxs, rfl⟩ := open_struct Tryz.underlying24 h
    rw [cellsE] at hl
    match cs, hl with
    | [c0, c1, c2], _ =>
      simp only [List.mapM_cons, List.mapM_nil, Option.bind_eq_bind, Option.bind_eq_some_iff, Option.pure_def, Option.some.injEq, cellsS, cellsKs] at hxs
      obtain ⟨y0, e0, _, ⟨y1, e1, _, ⟨y2, e2, _, rfl, rfl⟩, rfl⟩, rfl⟩ := hxs
      simp only [List.drop_zero, List.drop_succ_cons, List.take_succ_cons, List.take_zero] at e0 e1 e2
      obtain ⟨n, h0, rfl⟩ := open_str Tryz.underlying9 e0
      obtain ⟨tx, h1, rfl⟩ := open_str Tryz.underlying9 e1
      simp only [List.cons.injEq, and_true] at h0 h1
      subst h0 h1
      simp only [List.map_cons, List.map_nil] at hr
      have hw : DataW.weights Tryz.prog 24 (.agg [.lit (.string n.data.toList), .lit (.string tx.data.toList), y2.1] : DataW H) = [n.data.toList.length] ++ ([tx.data.toList.length] ++ (DataW.weights Tryz.prog 22 y2.1 ++ [])) := by
        rw [DataW.weights, Tryz.underlying24]; rfl
      rw [hw] at hr
      have hn : n.size ≤ maxRead := by have := hr n.data.toList.length (by simp); unfold reachBytes at this; unfold maxRead; simpa using this
      have ht : tx.size ≤ maxRead := by have := hr tx.data.toList.length (by simp); unfold reachBytes at this; unfold maxRead; simpa using this
      cases fuel with
      | zero => simp [DataW.trod] at e2
      | succ fuel =>
        rcases open_sl Tryz.underlying22 e2 with ⟨h2, _⟩ | ⟨a, len, cap, elems, rest, h2, hlc, hx, hel, hone⟩
        · simp only [List.cons.injEq, and_true] at h2
          subst h2
          refine ⟨.node n tx [], none, 0, rfl, ?_⟩
          unfold TreeIn
          exact ⟨⟨rfl, rfl, hn, ht, by simp, none, 0, rfl, by unfold KidsIn; trivial⟩, fun hb => by obtain ⟨h1, h2, _⟩ := bulk_elem hb; unfold SmT; exact ⟨h1, h2, by unfold SmKs; trivial⟩⟩
        · simp only [List.cons.injEq, and_true] at h2
          subst h2
          have hw2 : DataW.weights Tryz.prog 22 (.slice (elems.map (·.1)) (rest.map (·.1)) : DataW H) = ((elems.map (·.1)).length + (rest.map (·.1)).length) * Tryz.prog.bytesOf 24 :: (DataW.weightsAll Tryz.prog 24 (elems.map (·.1)) ++ DataW.weightsAll Tryz.prog 24 (rest.map (·.1))) := by
            rw [DataW.weights, Tryz.underlying22]
          rw [hx, hw2, bytesE] at hr
          have hlen : len ≤ 2513169434843 := by
            have := hr (((elems.map (·.1)).length + (rest.map (·.1)).length) * 56) (by simp)
            simp only [List.length_map, hel] at this
            unfold reachBytes at this
            omega
          have ha0 : 0 < len → ∃ b off, a = ⟨b, off, none⟩ := fun h0 => by
            obtain ⟨y, cs', hy, hc, ht'⟩ := hone 0 h0
            rw [cellsE] at hc
            obtain ⟨k, a', c', rfl, hk, hkS⟩ := open_treeX fuel cs' y ht' (fun m hm => hr m (by
              have hmem : m ∈ DataW.weightsAll Tryz.prog 24 (elems.map (·.1)) := weightsAll_mem _ _ y.1 (List.mem_map.2 ⟨y, List.mem_of_getElem? hy, rfl⟩) m hm
              simp only [List.mem_append, List.mem_cons]
              exact .inr (.inr (.inl (.inr (.inl hmem))))))
            obtain ⟨b, off, ha, _⟩ := cells_three hc
            exact ⟨b, off, by simpa [Addr.add] using ha⟩
          have hkid : ∀ i, i < len → ∃ k : Tree, ∃ b off x y z, some a = some (⟨b, off, none⟩ : Addr) ∧ W.cell? ⟨b, off + i * 3, none⟩ = some x ∧ W.cell? ⟨b, off + i * 3 + 1, none⟩ = some y ∧ W.cell? ⟨b, off + i * 3 + 2, none⟩ = some z ∧ TreeIn W k x y z ∧ (Rows.uptoBulk (.slice (elems.map (·.1)) (rest.map (·.1)) : DataW H) ≤ 4000000 → SmT k) := fun i hi => by
            obtain ⟨y, cs', hy, hc, ht'⟩ := hone i hi
            rw [cellsE] at hc
            obtain ⟨k, a', c', rfl, hk, hkS⟩ := open_treeX fuel cs' y ht' (fun m hm => hr m (by
              have hmem : m ∈ DataW.weightsAll Tryz.prog 24 (elems.map (·.1)) := weightsAll_mem _ _ y.1 (List.mem_map.2 ⟨y, List.mem_of_getElem? hy, rfl⟩) m hm
              simp only [List.mem_append, List.mem_cons]
              exact .inr (.inr (.inl (.inr (.inl hmem))))))
            obtain ⟨b, off, ha, q0, q1, q2⟩ := cells_three hc
            obtain ⟨b0, off0, rfl⟩ := ha0 (by omega)
            rw [Addr.add_lit, Addr.mk.injEq] at ha
            obtain ⟨rfl, rfl, _⟩ := ha
            exact ⟨k, _, off0, _, _, _, rfl, q0, q1, q2, hk, fun hb => hkS (by
              have h1 := bulks.part_le (List.mem_map.2 ⟨y, List.mem_of_getElem? hy, rfl⟩ : y.1 ∈ elems.map (·.1))
              have h2 := bulks.slice_elems (elems.map (·.1)) (rest.map (·.1))
              omega)⟩
          obtain ⟨ks, hkl, hks⟩ := choose_list _ len hkid
          refine ⟨.node n tx ks, some a, cap, by simp only [Tree.name, Tree.text, Tree.kids, hkl], ?_⟩
          unfold TreeIn
          simp only [Tree.kids, hkl]
          refine ⟨⟨rfl, rfl, hn, ht, by omega, some a, cap, rfl, KidsIn.of_get ks 0 (fun j k hj => ?_)⟩, fun hb => ?_⟩
          · obtain ⟨b, off, x, y, z, h3, h4, h5, h6, h7, _⟩ := hks j k hj
            rw [Nat.zero_add]
            exact ⟨b, off, x, y, z, h3, h4, h5, h6, h7⟩
          · obtain ⟨h1, h2, h3⟩ := bulk_elem hb
            unfold SmT
            refine ⟨h1, h2, smKs_of fun k hk => ?_⟩
            obtain ⟨j, hj⟩ := List.getElem?_of_mem hk
            obtain ⟨b, off, x, y, z, _, _, _, _, _, h4⟩ := hks j k hj
            have h3 : Rows.uptoBulk y2.1 ≤ 4000000 := h3
            rw [hx] at h3
            exact h4 h3

end Go.Proofs.YtgmgghbocidibaaGreatDoor
