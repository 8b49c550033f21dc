/-
  The law MetaKeys: whatever the bucket, the key, the numbers and the text, the call returns true; the arguments read as they did. No condition.
-/
import Derived.Test.YtajmkkjlhmeolaaGreatDoorCards
import Derived.Test.YtajmkkjlhmeolaaGreatDoorTie
import Derived.Test.YtajmkkjlhmeolaaGreatDoorMkLaw
import Derived.Test.YtajmkkjlhmeolaaGreatDoorMtRowKit
namespace Go.Proofs.YtajmkkjlhmeolaaGreatDoor.rowMetaKeys
open Go.ChangeShapes Go.WideShapes Go.ChangeAt Go.RowKit
open Go.ChangeMaps (open_string shut_string)

theorem short_of {H : Type} {s : ByteArray} (h : ∀ m ∈ DataW.weights Tryz.prog 9 (.lit (.string s.data.toList) : DataW H), m ≤ reachBytes) : s.data.toList.length ≤ 140737488351232 := by
  have := h s.data.toList.length (by simp [DataW.weights])
  unfold reachBytes at this
  exact this

set_option maxHeartbeats 1000000 in
set_option maxRecDepth 100000 in
theorem contract (H : Type) (enc : TypeId × Value → H) (W : World) (base : Nat) (args : Array Value) (ds gs : List (DataW H)) (before : List MemPlace)
    (hval : ∀ (j : Nat) t v, Tryz.f5.params[j]? = some t → args[j]? = some v → Value.okWide Tryz.prog W .any base t v)
    (hW : DataW.Whole enc Tryz.prog Tryz.f5.params.toList Rows.metaKeysSpec.vars false W args.toList ds gs before)
    (vt : List TypeId) (hR : (DataW.weightsEach Tryz.prog (Tryz.f5.params.toList ++ vt) (ds ++ gs)).all (· ≤ reachBytes) = true) (hL : laidMetH Tryz.prog Rows.metaKeysRow.laid W) (hsh : W.ShapedOpen Tryz.prog) :
    Calls Tryz.prog 5 args W fun e W' => ∃ v, e = .returned v ∧ Rows.metaKeysSpec.post enc Tryz.prog Tryz.f5 false true false false W args v W' := by
  have hG : GlobK W := globK_of_laid hL hsh
  have hW' := hW
  obtain ⟨p, q, hA0, hV, rfl, hfz, hnd⟩ := hW
  have hA : DataW.TrodAll enc Tryz.prog W 0 (fun _ => true) true Tryz.f5.params.toList args.toList ds p := hA0
  rw [Tryz.params5] at hA hval hR
  obtain ⟨v0, vs0, d0, ds0, p0, q0, hargs, rfl, rfl, h0, r0⟩ := trodAll_cons hA
  obtain ⟨v1, vs1, d1, ds1, p1, q1, rfl, rfl, rfl, h1, r1⟩ := trodAll_cons r0
  obtain ⟨v2, vs2, d2, ds2, p2, q2, rfl, rfl, rfl, h2, r2⟩ := trodAll_cons r1
  obtain ⟨v3, vs3, d3, ds3, p3, q3, rfl, rfl, rfl, h3, r3⟩ := trodAll_cons r2
  obtain ⟨v4, vs4, d4, ds4, p4, q4, rfl, rfl, rfl, h4, r4⟩ := trodAll_cons r3
  obtain ⟨rfl, rfl, rfl⟩ := trodAll_nil r4
  obtain rfl : args = #[v0, v1, v2, v3, v4] := by cases args; simp_all
  obtain ⟨rfl, rfl⟩ := trodVars_none hV
  clear hA0 hV hfz hnd
  have h0k := h0
  have h1k := h1
  have h2k := h2
  have h3k := h3
  have h4k := h4
  have hR0 : ∀ m ∈ DataW.weights Tryz.prog 9 d0, m ≤ reachBytes := fun m hm => by simpa using List.all_eq_true.1 hR m (weightsEach_get _ _ 0 _ _ rfl rfl m hm)
  have hR1 : ∀ m ∈ DataW.weights Tryz.prog 9 d1, m ≤ reachBytes := fun m hm => by simpa using List.all_eq_true.1 hR m (weightsEach_get _ _ 1 _ _ rfl rfl m hm)
  have hR2 : ∀ m ∈ DataW.weights Tryz.prog 3 d2, m ≤ reachBytes := fun m hm => by simpa using List.all_eq_true.1 hR m (weightsEach_get _ _ 2 _ _ rfl rfl m hm)
  have hR3 : ∀ m ∈ DataW.weights Tryz.prog 3 d3, m ≤ reachBytes := fun m hm => by simpa using List.all_eq_true.1 hR m (weightsEach_get _ _ 3 _ _ rfl rfl m hm)
  have hR4 : ∀ m ∈ DataW.weights Tryz.prog 9 d4, m ≤ reachBytes := fun m hm => by simpa using List.all_eq_true.1 hR m (weightsEach_get _ _ 4 _ _ rfl rfl m hm)
  clear hR
  obtain ⟨a0, rfl, rfl, rfl, w0⟩ := open_string Tryz.underlying9 (hval 0 _ v0 rfl rfl) h0
  obtain ⟨a1, rfl, rfl, rfl, w1⟩ := open_string Tryz.underlying9 (hval 1 _ v1 rfl rfl) h1
  obtain ⟨a2, rfl, rfl, rfl, w2⟩ := open_int Tryz.underlying3 (hval 2 _ v2 rfl rfl) h2
  obtain ⟨a3, rfl, rfl, rfl, w3⟩ := open_int Tryz.underlying3 (hval 3 _ v3 rfl rfl) h3
  obtain ⟨a4, rfl, rfl, rfl, w4⟩ := open_string Tryz.underlying9 (hval 4 _ v4 rfl rfl) h4
  have l0 := short_of hR0
  have l1 := short_of hR1
  have l4 := short_of hR4
  clear hR0 hR1 hR2 hR3 hR4
  refine (keys_walk a0.data.toList a1.data.toList a4.data.toList a2 a3 l0 l1 l4 (intOK_wf w2) (intOK_wf w3) W hG).mono fun e W' ⟨he, hb⟩ => ?_
  subst he
  refine ⟨_, rfl, ?_⟩
  simp only [List.append_nil] at hW'
  have hlt : ∀ x ∈ (([] : List MemPlace) ++ (([] : List MemPlace) ++ (([] : List MemPlace) ++ (([] : List MemPlace) ++ (([] : List MemPlace) ++ ([] : List MemPlace)))))), x.block < W.heap.size := fun x hx => by simp at hx
  exact post_of_below (ds := [_, _, _, _, _]) (gs := []) (pa := (([] : List MemPlace) ++ (([] : List MemPlace) ++ (([] : List MemPlace) ++ (([] : List MemPlace) ++ (([] : List MemPlace) ++ ([] : List MemPlace))))))) (pv := []) hW' (fun _ _ _ => trodAll_mk1 (shut_bool Tryz.underlying4 _))
    (fun sp hsp => trodAll_cons_mk (read_on (ps := ([] : List MemPlace)) (by kernel_rfl) (of_decide_eq_true (by kernel_rfl)) h0k hb (fun x hx => by cases hx) (fun x hx => by cases hx))
      (trodAll_cons_mk (read_on (ps := ([] : List MemPlace)) (by kernel_rfl) (of_decide_eq_true (by kernel_rfl)) h1k hb (fun x hx => by cases hx) (fun x hx => by cases hx))
      (trodAll_cons_mk (read_on (ps := ([] : List MemPlace)) (by kernel_rfl) (of_decide_eq_true (by kernel_rfl)) h2k hb (fun x hx => by cases hx) (fun x hx => by cases hx))
      (trodAll_cons_mk (read_on (ps := ([] : List MemPlace)) (by kernel_rfl) (of_decide_eq_true (by kernel_rfl)) h3k hb (fun x hx => by cases hx) (fun x hx => by cases hx))
      (trodAll_cons_mk (read_on (ps := ([] : List MemPlace)) (by kernel_rfl) (of_decide_eq_true (by kernel_rfl)) h4k hb (fun x hx => by cases hx) (fun x hx => by cases hx))
      (trodAll_mk0))))))
    (fun _ _ => rfl) (by simp) hb (ok_one (by kernel_rfl) rfl (okWide_bool_mk Tryz.underlying4 _))

abbrev wit : Array Value := #[.string .empty, .string .empty, .int .i64 0, .int .i64 0, .string .empty]
theorem reads (os : Os) {H : Type} (enc : TypeId × Value → H) : DataW.whole enc Tryz.prog ((World.laidAll Tryz.prog os laidAll).forCall (fun _ _ => 0) ⟨#[], wit, []⟩).memory Tryz.f5.params.toList Rows.metaKeysSpec.vars false wit.toList 8 = some ([.lit (.string []), .lit (.string []), .lit (.int .i64 0), .lit (.int .i64 0), .lit (.string [])], [], []) := by kernel_rfl

set_option maxRecDepth 100000 in
theorem lifted (os : Os) (started : os.Started) (H : Type) (enc : TypeId × Value → H) (F : Stop.Interp) :
    ReturnsInHanded {} Tryz.checked os 5 .any ((OpenSpec.ofChange Rows.metaKeysSpec).preRow enc Tryz.prog Tryz.f5 Rows.metaKeysRow.domain false Rows.metaKeysRow.laid) (((OpenSpec.ofChange Rows.metaKeysSpec).at F).post enc Tryz.prog Tryz.f5 false true false false) := by
  refine returnsInHanded_of_row (C := Tryz.checked) (s := (OpenSpec.ofChange Rows.metaKeysSpec)) own started (by kernel_rfl) Tryz.func5
    (witness_zip (enc := enc) (C := Tryz.checked) (World.laidAll Tryz.prog os laidAll) wit (World.laidAll_os _ _ _) (World.shaped_of_ZipB (by kernel_rfl) (by kernel_rfl)) (by kernel_rfl)
      (OpenSpec.preRow_of_cond 8 (reads os enc) (by kernel_rfl) (fun k hk => by cases hk) (by kernel_rfl) (laid_met os _))) ?_
  intro W base args ds gs before hval hW _ _ hR hL hsh _
  exact contract H enc W base args ds gs before hval hW _ hR hL hsh

theorem said : Rows.MetaKeysSaid :=
  OpenClaim.holds_of_cond 5 Tryz.f5 rfl rfl rfl rfl rfl rfl rfl ⟨rfl, rfl, rfl, rfl, rfl⟩ rfl rfl rfl rfl rfl (by kernel_rfl) Tryz.func5 (by kernel_rfl)
    (of_decide_eq_true (by kernel_rfl)) (by unfold Func.isWrapper; first | (rw [if_pos (by decide +kernel)]; kernel_rfl) | (rw [if_neg (by decide +kernel)]; exact ⟨rfl, rfl⟩))
    (fun os started H enc _ F => by rw [OpenClaim.pre_eq_preRow]; exact lifted os started H enc F)

theorem plain (f : FuncId) (fn : Func) (hf : Tryz.pinned.checked.prog.funcNamed "storehouse/storehouselaw19.MetaKeys" = some f) (hfn : Tryz.pinned.checked.prog.funcs[f]? = some fn) :
    true = Tryz.pinned.checked.prog.looks [] ∧ ∀ (j : Nat) t, fn.params[j]? = some t → Tryz.pinned.checked.prog.wantsStandIn t = false := by
  obtain rfl : f = 5 := Option.some.inj ((show Tryz.prog.funcNamed "storehouse/storehouselaw19.MetaKeys" = some 5 by kernel_rfl).symm.trans hf) |>.symm
  obtain rfl : fn = Tryz.f5 := (Option.some.inj (Tryz.func5.symm.trans hfn)).symm
  refine ⟨by kernel_rfl, fun j t ht => ?_⟩
  rw [Tryz.params5] at ht
  have hm : t ∈ ([9, 9, 3, 3, 9] : List TypeId) := by simpa using Array.mem_of_getElem? ht
  have hall : (([9, 9, 3, 3, 9] : List TypeId).all fun u => !Tryz.prog.wantsStandIn u) = true := by kernel_rfl
  exact (show Tryz.prog.wantsStandIn t = false by simpa using List.all_eq_true.1 hall t hm)

theorem card : Rows.MetaKeysCardSaid :=
  Claim7.holds_tied_plain_at .later [] _ _ _ _ said (fun _ h => by cases h) (by kernel_rfl) (fun _ h => by cases h) metaKeys_row_tie rfl ⟨rfl, rfl⟩ (by kernel_rfl) rfl plain (by kernel_rfl)
#print axioms card
end Go.Proofs.YtajmkkjlhmeolaaGreatDoor.rowMetaKeys
