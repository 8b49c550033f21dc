/-
  The law CycleLater: whatever the rules, the key, the versions and the two moments, the call returns true; the arguments read as they did. No condition.
-/
import Derived.Test.YtnnfcbebjbfkoaaDoorCards
import Derived.Test.YtnnfcbebjbfkoaaDoorTie
import Derived.Test.YtnnfcbebjbfkoaaDoorCyLater
import Derived.Test.YtnnfcbebjbfkoaaDoorOpenCy
import Derived.Test.YtnnfcbebjbfkoaaDoorRowKit
namespace Go.Proofs.YtnnfcbebjbfkoaaDoor.rowCycleLater
open Go.ChangeShapes Go.WideShapes Go.ChangeAt Go.RowKit
open Go.ChangeMaps (open_string shut_string)


set_option maxHeartbeats 1000000 in
set_option maxRecDepth 100000 in
theorem contract (H : Type) (enc : TypeId × Value → H) (W : World) (base : Nat) (args : Array Value) (ds gs : List (DataW H)) (before : List MemPlace)
    (hval : ∀ (j : Nat) t v, Tryd.f4.params[j]? = some t → args[j]? = some v → Value.okWide Tryd.prog W .any base t v)
    (hW : DataW.Whole enc Tryd.prog Tryd.f4.params.toList Rows.cycleLaterSpec.vars false W args.toList ds gs before)
    (vt : List TypeId) (hR : (DataW.weightsEach Tryd.prog (Tryd.f4.params.toList ++ vt) (ds ++ gs)).all (· ≤ reachBytes) = true) (hL : laidMetH Tryd.prog Rows.cycleLaterRow.laid W) :
    Calls Tryd.prog 4 args W fun e W' => ∃ v, e = .returned v ∧ Rows.cycleLaterSpec.post enc Tryd.prog Tryd.f4 false true false false W args v W' := by
  have hG : Glob W := glob_of_laid hL
  have hW' := hW
  obtain ⟨p, q, hA0, hV, rfl, hfz, hnd⟩ := hW
  have hA : DataW.TrodAll enc Tryd.prog W 0 (fun _ => true) true Tryd.f4.params.toList args.toList ds p := hA0
  rw [Tryd.params4] at hA hval hR
  obtain ⟨v0, vs0, d0, ds0, p0, q0, hargs, rfl, rfl, h0, r0⟩ := trodAll_cons hA
  obtain ⟨v1, vs1, d1, ds1, p1, q1, rfl, rfl, rfl, h1, r1⟩ := trodAll_cons r0
  obtain ⟨v2, vs2, d2, ds2, p2, q2, rfl, rfl, rfl, h2, r2⟩ := trodAll_cons r1
  obtain ⟨v3, vs3, d3, ds3, p3, q3, rfl, rfl, rfl, h3, r3⟩ := trodAll_cons r2
  obtain ⟨v4, vs4, d4, ds4, p4, q4, rfl, rfl, rfl, h4, r4⟩ := trodAll_cons r3
  obtain ⟨v5, vs5, d5, ds5, p5, q5, rfl, rfl, rfl, h5, r5⟩ := trodAll_cons r4
  obtain ⟨v6, vs6, d6, ds6, p6, q6, rfl, rfl, rfl, h6, r6⟩ := trodAll_cons r5
  obtain ⟨rfl, rfl, rfl⟩ := trodAll_nil r6
  obtain rfl : args = #[v0, v1, v2, v3, v4, v5, v6] := by cases args; simp_all
  obtain ⟨rfl, rfl⟩ := trodVars_none hV
  clear hA0 hV hfz hnd
  have h0k := h0
  have h1k := h1
  have h2k := h2
  have h3k := h3
  have h4k := h4
  have h5k := h5
  have h6k := h6
  have hR0 : ∀ m ∈ DataW.weights Tryd.prog 26 d0, m ≤ reachBytes := fun m hm => by simpa using List.all_eq_true.1 hR m (weightsEach_get _ _ 0 _ _ rfl rfl m hm)
  have hR1 : ∀ m ∈ DataW.weights Tryd.prog 34 d1, m ≤ reachBytes := fun m hm => by simpa using List.all_eq_true.1 hR m (weightsEach_get _ _ 1 _ _ rfl rfl m hm)
  have hR2 : ∀ m ∈ DataW.weights Tryd.prog 3 d2, m ≤ reachBytes := fun m hm => by simpa using List.all_eq_true.1 hR m (weightsEach_get _ _ 2 _ _ rfl rfl m hm)
  have hR3 : ∀ m ∈ DataW.weights Tryd.prog 9 d3, m ≤ reachBytes := fun m hm => by simpa using List.all_eq_true.1 hR m (weightsEach_get _ _ 3 _ _ rfl rfl m hm)
  have hR4 : ∀ m ∈ DataW.weights Tryd.prog 35 d4, m ≤ reachBytes := fun m hm => by simpa using List.all_eq_true.1 hR m (weightsEach_get _ _ 4 _ _ rfl rfl m hm)
  have hR5 : ∀ m ∈ DataW.weights Tryd.prog 3 d5, m ≤ reachBytes := fun m hm => by simpa using List.all_eq_true.1 hR m (weightsEach_get _ _ 5 _ _ rfl rfl m hm)
  have hR6 : ∀ m ∈ DataW.weights Tryd.prog 3 d6, m ≤ reachBytes := fun m hm => by simpa using List.all_eq_true.1 hR m (weightsEach_get _ _ 6 _ _ rfl rfl m hm)
  clear hR
  obtain ⟨a2, rfl, rfl, rfl, w2⟩ := open_int Tryd.underlying3 (hval 2 _ v2 rfl rfl) h2
  obtain ⟨a3, rfl, rfl, rfl, w3⟩ := open_string Tryd.underlying9 (hval 3 _ v3 rfl rfl) h3
  obtain ⟨a5, rfl, rfl, rfl, w5⟩ := open_int Tryd.underlying3 (hval 5 _ v5 rfl rfl) h5
  obtain ⟨a6, rfl, rfl, rfl, w6⟩ := open_int Tryd.underlying3 (hval 6 _ v6 rfl rfl) h6
  obtain ⟨al, nl, cl, rfl⟩ := okWide_slice Tryd.underlying26 (hval 0 _ v0 rfl rfl)
  obtain ⟨f0, e0⟩ := h0
  obtain ⟨ls, al', cl', hcs0, _, hln, hcl⟩ := open_list (fun cs (r : RuleW) => cs = r.val.cells) Tryd.underlying26 (of_decide_eq_true (by kernel_rfl)) (fun _ _ _ h _ => by obtain ⟨r, h, _⟩ := open_rule h; exact ⟨r, h⟩) e0 hR0
  obtain ⟨rfl, rfl, rfl⟩ : al = al' ∧ nl = ls.length ∧ cl = cl' := by simpa [Value.cells] using hcs0
  obtain ⟨cs1, rfl, _⟩ := okWide_struct Tryd.underlying34 (hval 1 _ v1 rfl rfl)
  obtain ⟨f1, e1⟩ := h1
  obtain ⟨m, hm, _⟩ := open_rule e1
  obtain rfl : cs1 = #[.string m.val.id, .string m.val.pre, .bool m.val.on, .int .i64 m.val.days, .int .i64 m.val.nonc, .int .i64 m.val.abort] := by cases cs1; simp [Value.cells] at hm; rw [hm]; rfl
  obtain ⟨av, nv, cv, rfl⟩ := okWide_slice Tryd.underlying35 (hval 4 _ v4 rfl rfl)
  obtain ⟨f4, e4⟩ := h4
  obtain ⟨vs, av', cv', hcs4, _, hvn, hcv⟩ := open_list (fun cs (v : {v : VersionV // v.OK}) => cs = v.val.cells) Tryd.underlying35 (of_decide_eq_true (by kernel_rfl)) (fun _ _ _ h _ => by obtain ⟨v, h, hv⟩ := open_version h; exact ⟨⟨v, hv⟩, h⟩) e4 hR4
  obtain ⟨rfl, rfl, rfl⟩ : av = av' ∧ nv = vs.length ∧ cv = cv' := by simpa [Value.cells] using hcs4
  rw [show Tryd.prog.bytesOf 34 = 64 by kernel_rfl] at hln
  rw [show Tryd.prog.bytesOf 56 = 88 by kernel_rfl] at hvn
  rw [cellsRule] at hcl
  rw [cellsVer] at hcv
  unfold reachBytes at hln hvn
  have hLI : RulesIn W (.slice al ls.length cl) (ls.map Subtype.val) := by
    refine ⟨al, cl, by simp, by simp; omega, fun hp => ?_⟩
    obtain ⟨b, off, rfl, hc⟩ := hcl (by simpa using hp)
    refine ⟨b, off, rfl, fun i r hr j u hu => ?_⟩
    rw [List.getElem?_map, Option.map_eq_some_iff] at hr
    obtain ⟨r', hr', rfl⟩ := hr
    obtain ⟨cs', rfl, hc⟩ := hc i r' hr'
    exact hc j u hu
  have hVI : VersionsIn W (.slice av vs.length cv) (vs.map Subtype.val) := by
    refine ⟨av, cv, by simp, by simp; omega, fun hp => ?_⟩
    obtain ⟨b, off, rfl, hc⟩ := hcv (by simpa using hp)
    refine ⟨b, off, rfl, fun i r hr j u hu => ?_⟩
    rw [List.getElem?_map, Option.map_eq_some_iff] at hr
    obtain ⟨r', hr', rfl⟩ := hr
    obtain ⟨cs', rfl, hc⟩ := hc i r' hr'
    exact hc j u hu
  have hVO : ∀ v ∈ vs.map Subtype.val, v.OK := fun v hv => by
    obtain ⟨v', _, rfl⟩ := List.mem_map.1 hv
    exact v'.property
  refine (later_walk ls m a2 a3 (vs.map Subtype.val) a5 a6 (.slice al ls.length cl) (.slice av vs.length cv) W hG (intOK_of_wf w2) (intOK_of_wf w5) (intOK_of_wf w6) hVO hLI (by omega) hVI).mono fun e W' ⟨he, hb⟩ => ?_
  subst he
  refine ⟨_, rfl, ?_⟩
  simp only [List.append_nil, List.nil_append] at hW'
  have hlt : ∀ x ∈ (p0 ++ (p1 ++ (([] : List MemPlace) ++ (([] : List MemPlace) ++ (p4 ++ (([] : List MemPlace) ++ (([] : List MemPlace) ++ ([] : List MemPlace)))))))), x.block < W.heap.size := fun x hx => hW'.lt x (by simpa using hx)
  exact post_of_below (ds := [_, _, _, _, _, _, _]) (gs := []) (pa := (p0 ++ (p1 ++ (([] : List MemPlace) ++ (([] : List MemPlace) ++ (p4 ++ (([] : List MemPlace) ++ (([] : List MemPlace) ++ ([] : List MemPlace))))))))) (pv := []) hW' (fun _ _ _ => trodAll_mk1 (shut_bool Tryd.underlying4 _))
    (fun sp hsp => trodAll_cons_mk (read_on (ps := p0) (by kernel_rfl) (of_decide_eq_true (by kernel_rfl)) h0k hb (fun x hx => hlt x (by simp [hx])) (fun x hx => hsp x (by simp [hx])))
      (trodAll_cons_mk (read_on (ps := p1) (by kernel_rfl) (of_decide_eq_true (by kernel_rfl)) h1k hb (fun x hx => hlt x (by simp [hx])) (fun x hx => hsp x (by simp [hx])))
      (trodAll_cons_mk (read_on (ps := ([] : List MemPlace)) (by kernel_rfl) (of_decide_eq_true (by kernel_rfl)) h2k hb (fun x hx => by cases hx) (fun x hx => by cases hx))
      (trodAll_cons_mk (read_on (ps := ([] : List MemPlace)) (by kernel_rfl) (of_decide_eq_true (by kernel_rfl)) h3k hb (fun x hx => by cases hx) (fun x hx => by cases hx))
      (trodAll_cons_mk (read_on (ps := p4) (by kernel_rfl) (of_decide_eq_true (by kernel_rfl)) h4k hb (fun x hx => hlt x (by simp [hx])) (fun x hx => hsp x (by simp [hx])))
      (trodAll_cons_mk (read_on (ps := ([] : List MemPlace)) (by kernel_rfl) (of_decide_eq_true (by kernel_rfl)) h5k hb (fun x hx => by cases hx) (fun x hx => by cases hx))
      (trodAll_cons_mk (read_on (ps := ([] : List MemPlace)) (by kernel_rfl) (of_decide_eq_true (by kernel_rfl)) h6k hb (fun x hx => by cases hx) (fun x hx => by cases hx))
      (trodAll_mk0))))))))
    (fun _ _ => rfl) (by simp) hb (ok_one (by kernel_rfl) rfl (okWide_bool_mk Tryd.underlying4 _))

abbrev wit : Array Value := #[.slice none 0 0, .agg #[.string .empty, .string .empty, .bool false, .int .i64 0, .int .i64 0, .int .i64 0], .int .i64 0, .string .empty, .slice none 0 0, .int .i64 0, .int .i64 0]
theorem reads (os : Os) {H : Type} (enc : TypeId × Value → H) : DataW.whole enc Tryd.prog ((World.laidAll Tryd.prog os laidAll).forCall (fun _ _ => 0) ⟨#[], wit, []⟩).memory Tryd.f4.params.toList Rows.cycleLaterSpec.vars false wit.toList 8 = some ([.nil, .agg [.lit (.string []), .lit (.string []), .lit (.bool false), .lit (.int .i64 0), .lit (.int .i64 0), .lit (.int .i64 0)], .lit (.int .i64 0), .lit (.string []), .nil, .lit (.int .i64 0), .lit (.int .i64 0)], [], []) := by kernel_rfl

set_option maxRecDepth 100000 in
theorem lifted (os : Os) (started : os.Started) (H : Type) (enc : TypeId × Value → H) (F : Stop.Interp) :
    ReturnsInHanded {} Tryd.checked os 4 .any ((OpenSpec.ofChange Rows.cycleLaterSpec).preRow enc Tryd.prog Tryd.f4 Rows.cycleLaterRow.domain false Rows.cycleLaterRow.laid) (((OpenSpec.ofChange Rows.cycleLaterSpec).at F).post enc Tryd.prog Tryd.f4 false true false false) := by
  refine returnsInHanded_of_row (C := Tryd.checked) (s := (OpenSpec.ofChange Rows.cycleLaterSpec)) own started (by kernel_rfl) Tryd.func4
    (witness_zip (enc := enc) (C := Tryd.checked) (World.laidAll Tryd.prog os laidAll) wit (World.laidAll_os _ _ _) (World.shaped_of_ZipB (by kernel_rfl) (by kernel_rfl)) (by kernel_rfl)
      (OpenSpec.preRow_of_cond 8 (reads os enc) (by kernel_rfl) (fun k hk => by cases hk) (by kernel_rfl) (laid_met os _))) ?_
  intro W base args ds gs before hval hW _ _ hR hL _ _
  exact contract H enc W base args ds gs before hval hW _ hR hL

theorem said : Rows.CycleLaterSaid :=
  OpenClaim.holds_of_cond 4 Tryd.f4 rfl rfl rfl rfl rfl rfl rfl ⟨rfl, rfl, rfl, rfl, rfl⟩ rfl rfl rfl rfl rfl (by kernel_rfl) Tryd.func4 (by kernel_rfl)
    (of_decide_eq_true (by kernel_rfl)) (by unfold Func.isWrapper; first | (rw [if_pos (by decide +kernel)]; kernel_rfl) | (rw [if_neg (by decide +kernel)]; exact ⟨rfl, rfl⟩))
    (fun os started H enc _ F => by rw [OpenClaim.pre_eq_preRow]; exact lifted os started H enc F)

theorem plain (f : FuncId) (fn : Func) (hf : Tryd.pinned.checked.prog.funcNamed "storehouse/storehouselaw22.CycleLater" = some f) (hfn : Tryd.pinned.checked.prog.funcs[f]? = some fn) :
    true = Tryd.pinned.checked.prog.looks [] ∧ ∀ (j : Nat) t, fn.params[j]? = some t → Tryd.pinned.checked.prog.wantsStandIn t = false := by
  obtain rfl : f = 4 := Option.some.inj ((show Tryd.prog.funcNamed "storehouse/storehouselaw22.CycleLater" = some 4 by kernel_rfl).symm.trans hf) |>.symm
  obtain rfl : fn = Tryd.f4 := (Option.some.inj (Tryd.func4.symm.trans hfn)).symm
  refine ⟨by kernel_rfl, fun j t ht => ?_⟩
  rw [Tryd.params4] at ht
  have hm : t ∈ ([26, 34, 3, 9, 35, 3, 3] : List TypeId) := by simpa using Array.mem_of_getElem? ht
  have hall : (([26, 34, 3, 9, 35, 3, 3] : List TypeId).all fun u => !Tryd.prog.wantsStandIn u) = true := by kernel_rfl
  exact (show Tryd.prog.wantsStandIn t = false by simpa using List.all_eq_true.1 hall t hm)

theorem card : Rows.CycleLaterCardSaid :=
  Claim7.holds_tied_plain_at .later [] _ _ _ _ said (fun _ h => by cases h) (by kernel_rfl) (fun _ h => by cases h) cycleLater_row_tie rfl ⟨rfl, rfl⟩ (by kernel_rfl) rfl plain (by kernel_rfl)
#print axioms card
end Go.Proofs.YtnnfcbebjbfkoaaDoor.rowCycleLater
