/-
  The law CycleReads: whatever the element and the rules, the call returns true; the arguments read as they did. No condition.
-/
import Derived.Test.YtnnfcbebjbfkoaaDoorCards
import Derived.Test.YtnnfcbebjbfkoaaDoorTie
import Derived.Test.YtnnfcbebjbfkoaaDoorRxReads
import Derived.Test.YtnnfcbebjbfkoaaDoorOpenCy
import Derived.Test.YtnnfcbebjbfkoaaDoorOpenTree
import Derived.Test.YtnnfcbebjbfkoaaDoorLaid
import Derived.Test.YtnnfcbebjbfkoaaDoorRowKit
namespace Go.Proofs.YtnnfcbebjbfkoaaDoor.rowCycleReads
open Go.ChangeShapes Go.WideShapes Go.ChangeAt Go.RowKit
open Go.ChangeMaps (open_string shut_string)

theorem rules_small {H : Type} {x : DataW H} {es sps : List (DataW H)} (hx : x = .slice es sps ∨ (es = [] ∧ x = .nil)) (hr : ∀ n ∈ DataW.weights Tryd.prog 26 x, n ≤ reachBytes)
    {i : Nat} {s t : List UInt8} {y d1 d2 d3 : DataW H} (hi : es[i]? = some (.agg [.lit (.string s), .lit (.string t), y, d1, d2, d3])) : s.length ≤ maxRead ∧ t.length ≤ maxRead := by
  rcases hx with rfl | ⟨rfl, _⟩
  · have hw2 : DataW.weights Tryd.prog 26 (.slice es sps : DataW H) = (es.length + sps.length) * Tryd.prog.bytesOf 34 :: (DataW.weightsAll Tryd.prog 34 es ++ DataW.weightsAll Tryd.prog 34 sps) := by
      rw [DataW.weights, Tryd.underlying26]
    rw [hw2] at hr
    have hw : DataW.weights Tryd.prog 34 (.agg [.lit (.string s), .lit (.string t), y, d1, d2, d3] : DataW H) = [s.length] ++ ([t.length] ++ (DataW.weights Tryd.prog 4 y ++ (DataW.weights Tryd.prog 3 d1 ++ (DataW.weights Tryd.prog 3 d2 ++ (DataW.weights Tryd.prog 3 d3 ++ []))))) := by
      rw [DataW.weights, Tryd.underlying34]; rfl
    have hm : ∀ m ∈ DataW.weights Tryd.prog 34 (.agg [.lit (.string s), .lit (.string t), y, d1, d2, d3] : DataW H), m ≤ reachBytes := fun m hm => hr m (by
      have := weightsAll_mem' (P := Tryd.prog) 34 es _ (List.mem_of_getElem? hi) m hm
      simp only [List.mem_append, List.mem_cons]
      exact .inr (.inl this))
    rw [hw] at hm
    have h1 := hm s.length (by simp)
    have h2 := hm t.length (by simp)
    unfold reachBytes at h1 h2
    unfold maxRead
    exact ⟨h1, h2⟩
  · simp at hi

set_option maxHeartbeats 1000000 in
set_option maxRecDepth 100000 in
theorem contract (H : Type) (enc : TypeId × Value → H) (W : World) (base : Nat) (args : Array Value) (ds gs : List (DataW H)) (before : List MemPlace)
    (hval : ∀ (j : Nat) t v, Tryd.f6.params[j]? = some t → args[j]? = some v → Value.okWide Tryd.prog W .any base t v)
    (hW : DataW.Whole enc Tryd.prog Tryd.f6.params.toList Rows.cycleReadsSpec.vars false W args.toList ds gs before)
    (vt : List TypeId) (hR : (DataW.weightsEach Tryd.prog (Tryd.f6.params.toList ++ vt) (ds ++ gs)).all (· ≤ reachBytes) = true) (hL : laidMetH Tryd.prog Rows.cycleReadsRow.laid W) :
    Calls Tryd.prog 6 args W fun e W' => ∃ v, e = .returned v ∧ Rows.cycleReadsSpec.post enc Tryd.prog Tryd.f6 false true false false W args v W' := by
  have hG : Glob W := glob_of_laid hL
  have hW' := hW
  obtain ⟨p, q, hA0, hV, rfl, hfz, hnd⟩ := hW
  have hA : DataW.TrodAll enc Tryd.prog W 0 (fun _ => true) true Tryd.f6.params.toList args.toList ds p := hA0
  rw [Tryd.params6] at hA hval hR
  obtain ⟨v0, vs0, d0, ds0, p0, q0, hargs, rfl, rfl, h0, r0⟩ := trodAll_cons hA
  obtain ⟨v1, vs1, d1, ds1, p1, q1, rfl, rfl, rfl, h1, r1⟩ := trodAll_cons r0
  obtain ⟨rfl, rfl, rfl⟩ := trodAll_nil r1
  obtain rfl : args = #[v0, v1] := by cases args; simp_all
  obtain ⟨rfl, rfl⟩ := trodVars_none hV
  clear hA0 hV hfz hnd
  have h0k := h0
  have h1k := h1
  have hR0 : ∀ m ∈ DataW.weights Tryd.prog 24 d0, m ≤ reachBytes := fun m hm => by simpa using List.all_eq_true.1 hR m (weightsEach_get _ _ 0 _ _ rfl rfl m hm)
  have hR1 : ∀ m ∈ DataW.weights Tryd.prog 26 d1, m ≤ reachBytes := fun m hm => by simpa using List.all_eq_true.1 hR m (weightsEach_get _ _ 1 _ _ rfl rfl m hm)
  clear hR
  obtain ⟨cs0, rfl, _⟩ := okWide_struct Tryd.underlying24 (hval 0 _ v0 rfl rfl)
  obtain ⟨f0, e0⟩ := h0
  obtain ⟨t, a, c, hc, ht⟩ := open_tree f0 _ _ e0 hR0
  obtain rfl : cs0 = #[.string t.name, .string t.text, .slice a t.kids.length c] := by
    cases cs0
    simp [Value.cells] at hc
    rw [hc]
  obtain ⟨_, _, _, _, hl, a', c', he, hk⟩ := ht.cells
  cases he
  obtain ⟨al, nl, cl, rfl⟩ := okWide_slice Tryd.underlying26 (hval 1 _ v1 rfl rfl)
  obtain ⟨f1, e1⟩ := h1
  obtain ⟨ls, al', cl', es, sps, hcs1, _, hsl, hln, hLI, hd⟩ := open_rules e1 hR1
  obtain ⟨rfl, rfl, rfl⟩ : al = al' ∧ nl = ls.length ∧ cl = cl' := by simpa [Value.cells] using hcs1
  have hok : ∀ r ∈ ls.map Subtype.val, IntOK r.days ∧ IntOK r.nonc ∧ IntOK r.abort := fun r hr => by
    obtain ⟨r', _, rfl⟩ := List.mem_map.1 hr
    exact r'.property
  have hsz : ∀ r ∈ ls.map Subtype.val, r.id.size ≤ maxRead ∧ r.pre.size ≤ maxRead := fun r hr => by
    obtain ⟨r', hr', rfl⟩ := List.mem_map.1 hr
    obtain ⟨i, hi⟩ := List.getElem?_of_mem hr'
    obtain ⟨y, hy⟩ := hd i r' hi
    exact rules_small hsl hR1 hy
  refine (reads_walk t a c (ls.map Subtype.val) (.slice al ls.length cl) W hG hl hk hLI hok hsz).mono fun e W' ⟨he, hb⟩ => ?_
  subst he
  refine ⟨_, rfl, ?_⟩
  simp only [List.append_nil] at hW'
  have hlt : ∀ x ∈ (p0 ++ (p1 ++ ([] : List MemPlace))), x.block < W.heap.size := fun x hx => hW'.lt x (by simpa using hx)
  exact post_of_below (ds := [_, _]) (gs := []) (pa := (p0 ++ (p1 ++ ([] : List MemPlace)))) (pv := []) hW' (fun _ _ _ => trodAll_mk1 (shut_bool Tryd.underlying4 _))
    (fun sp hsp => trodAll_cons_mk (read_on (ps := p0) (by kernel_rfl) (of_decide_eq_true (by kernel_rfl)) h0k hb (fun x hx => hlt x (by simp [hx])) (fun x hx => hsp x (by simp [hx])))
      (trodAll_cons_mk (read_on (ps := p1) (by kernel_rfl) (of_decide_eq_true (by kernel_rfl)) h1k hb (fun x hx => hlt x (by simp [hx])) (fun x hx => hsp x (by simp [hx])))
      (trodAll_mk0)))
    (fun _ _ => rfl) (by simp) hb (ok_one (by kernel_rfl) rfl (okWide_bool_mk Tryd.underlying4 _))

abbrev wit : Array Value := #[.agg #[.string .empty, .string .empty, .slice none 0 0], .slice none 0 0]
theorem reads (os : Os) {H : Type} (enc : TypeId × Value → H) : DataW.whole enc Tryd.prog ((World.laidAll Tryd.prog os laidAll).forCall (fun _ _ => 0) ⟨#[], wit, []⟩).memory Tryd.f6.params.toList Rows.cycleReadsSpec.vars false wit.toList 8 = some ([.agg [.lit (.string []), .lit (.string []), .nil], .nil], [], []) := by kernel_rfl

set_option maxRecDepth 100000 in
theorem lifted (os : Os) (started : os.Started) (H : Type) (enc : TypeId × Value → H) (F : Stop.Interp) :
    ReturnsInHanded {} Tryd.checked os 6 .any ((OpenSpec.ofChange Rows.cycleReadsSpec).preRow enc Tryd.prog Tryd.f6 Rows.cycleReadsRow.domain false Rows.cycleReadsRow.laid) (((OpenSpec.ofChange Rows.cycleReadsSpec).at F).post enc Tryd.prog Tryd.f6 false true false false) := by
  refine returnsInHanded_of_row (C := Tryd.checked) (s := (OpenSpec.ofChange Rows.cycleReadsSpec)) own started (by kernel_rfl) Tryd.func6
    (witness_zip (enc := enc) (C := Tryd.checked) (World.laidAll Tryd.prog os laidAll) wit (World.laidAll_os _ _ _) (World.shaped_of_ZipB (by kernel_rfl) (by kernel_rfl)) (by kernel_rfl)
      (OpenSpec.preRow_of_cond 8 (reads os enc) (by kernel_rfl) (fun k hk => by cases hk) (by kernel_rfl) (laid_met os _))) ?_
  intro W base args ds gs before hval hW _ _ hR hL _ _
  exact contract H enc W base args ds gs before hval hW _ hR hL

theorem said : Rows.CycleReadsSaid :=
  OpenClaim.holds_of_cond 6 Tryd.f6 rfl rfl rfl rfl rfl rfl rfl ⟨rfl, rfl, rfl, rfl, rfl⟩ rfl rfl rfl rfl rfl (by kernel_rfl) Tryd.func6 (by kernel_rfl)
    (of_decide_eq_true (by kernel_rfl)) (by unfold Func.isWrapper; first | (rw [if_pos (by decide +kernel)]; kernel_rfl) | (rw [if_neg (by decide +kernel)]; exact ⟨rfl, rfl⟩))
    (fun os started H enc _ F => by rw [OpenClaim.pre_eq_preRow]; exact lifted os started H enc F)

theorem plain (f : FuncId) (fn : Func) (hf : Tryd.pinned.checked.prog.funcNamed "storehouse/storehouselaw22.CycleReads" = some f) (hfn : Tryd.pinned.checked.prog.funcs[f]? = some fn) :
    true = Tryd.pinned.checked.prog.looks [] ∧ ∀ (j : Nat) t, fn.params[j]? = some t → Tryd.pinned.checked.prog.wantsStandIn t = false := by
  obtain rfl : f = 6 := Option.some.inj ((show Tryd.prog.funcNamed "storehouse/storehouselaw22.CycleReads" = some 6 by kernel_rfl).symm.trans hf) |>.symm
  obtain rfl : fn = Tryd.f6 := (Option.some.inj (Tryd.func6.symm.trans hfn)).symm
  refine ⟨by kernel_rfl, fun j t ht => ?_⟩
  rw [Tryd.params6] at ht
  have hm : t ∈ ([24, 26] : List TypeId) := by simpa using Array.mem_of_getElem? ht
  have hall : (([24, 26] : List TypeId).all fun u => !Tryd.prog.wantsStandIn u) = true := by kernel_rfl
  exact (show Tryd.prog.wantsStandIn t = false by simpa using List.all_eq_true.1 hall t hm)

theorem card : Rows.CycleReadsCardSaid :=
  Claim7.holds_tied_plain_at .later [] _ _ _ _ said (fun _ h => by cases h) (by kernel_rfl) (fun _ h => by cases h) cycleReads_row_tie rfl ⟨rfl, rfl⟩ (by kernel_rfl) rfl plain (by kernel_rfl)
#print axioms card
end Go.Proofs.YtnnfcbebjbfkoaaDoor.rowCycleReads
