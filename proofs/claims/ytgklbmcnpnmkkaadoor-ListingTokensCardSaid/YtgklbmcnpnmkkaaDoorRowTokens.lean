/-
  The law ListingTokens: whatever the place, the number and the text, the call returns true. No condition.
-/
import Derived.Test.YtgklbmcnpnmkkaaDoorCards
import Derived.Test.YtgklbmcnpnmkkaaDoorTie
import Derived.Test.YtgklbmcnpnmkkaaDoorLsTokensL
import Derived.Test.YtgklbmcnpnmkkaaDoorLsOpen
import Derived.Test.YtgklbmcnpnmkkaaDoorSm42
namespace Go.Proofs.YtgklbmcnpnmkkaaDoor.rowListingTokens
open Go.ChangeShapes Go.WideShapes Go.ChangeAt Go.RowKit
open Go.ChangeMaps (open_string shut_string)

theorem short_of {H : Type} {s : ByteArray} (h : ∀ m ∈ DataW.weights Tryd.prog 9 (.lit (.string s.data.toList) : DataW H), m ≤ reachBytes) : s.data.toList.length ≤ 140737488351232 := by
  have := h s.data.toList.length (by simp [DataW.weights])
  unfold reachBytes at this
  exact this

set_option maxHeartbeats 8000000 in
set_option maxRecDepth 100000 in
theorem contract (H : Type) (enc : TypeId × Value → H) (W : World) (base : Nat) (args : Array Value) (ds gs : List (DataW H)) (before : List MemPlace)
    (hval : ∀ (j : Nat) t v, Tryd.f6.params[j]? = some t → args[j]? = some v → Value.okWide Tryd.prog W .any base t v)
    (hW : DataW.Whole enc Tryd.prog Tryd.f6.params.toList Rows.listingTokensSpec.vars false W args.toList ds gs before)
    (vt : List TypeId) (hR : (DataW.weightsEach Tryd.prog (Tryd.f6.params.toList ++ vt) (ds ++ gs)).all (· ≤ reachBytes) = true) (hL : laidMetH Tryd.prog Rows.listingTokensRow.laid W) (hsh : W.ShapedOpen Tryd.prog) :
    Calls Tryd.prog 6 args W fun e W' => ∃ v, e = .returned v ∧ Rows.listingTokensSpec.post enc Tryd.prog Tryd.f6 false true false false W args v W' := by
  have hG : GlobL W := globL_of_laid hL hsh
  have hW' := hW
  obtain ⟨p, q, hA0, hV, rfl, hfz, hnd⟩ := hW
  have hA : DataW.TrodAll enc Tryd.prog W 0 (fun _ => true) true Tryd.f6.params.toList args.toList ds p := hA0
  rw [Tryd.params6] at hA hval hR
  obtain ⟨v0, vs0, d0, ds0, p0, q0, hargs, rfl, rfl, h0, r0⟩ := trodAll_cons hA
  obtain ⟨v1, vs1, d1, ds1, p1, q1, rfl, rfl, rfl, h1, r1⟩ := trodAll_cons r0
  obtain ⟨v2, vs2, d2, ds2, p2, q2, rfl, rfl, rfl, h2, r2⟩ := trodAll_cons r1
  obtain ⟨rfl, rfl, rfl⟩ := trodAll_nil r2
  obtain rfl : args = #[v0, v1, v2] := by cases args; simp_all
  obtain ⟨rfl, rfl⟩ := trodVars_none hV
  clear hA0 hV hfz hnd
  have h0k := h0
  have h1k := h1
  have h2k := h2
  have hR0 : ∀ m ∈ DataW.weights Tryd.prog 9 d0, m ≤ reachBytes := fun m hm => by simpa using List.all_eq_true.1 hR m (weightsEach_get _ _ 0 _ _ rfl rfl m hm)
  have hR1 : ∀ m ∈ DataW.weights Tryd.prog 3 d1, m ≤ reachBytes := fun m hm => by simpa using List.all_eq_true.1 hR m (weightsEach_get _ _ 1 _ _ rfl rfl m hm)
  have hR2 : ∀ m ∈ DataW.weights Tryd.prog 9 d2, m ≤ reachBytes := fun m hm => by simpa using List.all_eq_true.1 hR m (weightsEach_get _ _ 2 _ _ rfl rfl m hm)
  clear hR
  obtain ⟨a0, rfl, rfl, rfl, w0⟩ := open_string Tryd.underlying9 (hval 0 _ v0 rfl rfl) h0
  obtain ⟨a1, rfl, rfl, rfl, w1⟩ := open_int Tryd.underlying3 (hval 1 _ v1 rfl rfl) h1
  obtain ⟨a2, rfl, rfl, rfl, w2⟩ := open_string Tryd.underlying9 (hval 2 _ v2 rfl rfl) h2
  have l0 := short_of hR0
  have l2 := short_of hR2
  clear hR0 hR1 hR2
  refine (tokens_walk (after := a0.data.toList) (s := a2.data.toList) (intOK_wf w1) hG l0 (by omega)).mono fun e W' ⟨he, hb⟩ => ?_
  subst he
  refine ⟨_, rfl, ?_⟩
  simp only [List.append_nil] at hW'
  have hlt : ∀ x ∈ (([] : List MemPlace) ++ (([] : List MemPlace) ++ (([] : List MemPlace) ++ ([] : List MemPlace)))), x.block < W.heap.size := fun x hx => by simp at hx
  exact post_of_below (ds := [_, _, _]) (gs := []) (pa := (([] : List MemPlace) ++ (([] : List MemPlace) ++ (([] : List MemPlace) ++ ([] : List MemPlace))))) (pv := []) hW' (fun _ _ _ => trodAll_mk1 (shut_bool Tryd.underlying4 _))
    (fun sp hsp => trodAll_cons_mk (read_on (ps := ([] : List MemPlace)) (by kernel_rfl) (of_decide_eq_true (by kernel_rfl)) h0k hb (fun x hx => by cases hx) (fun x hx => by cases hx))
      (trodAll_cons_mk (read_on (ps := ([] : List MemPlace)) (by kernel_rfl) (of_decide_eq_true (by kernel_rfl)) h1k hb (fun x hx => by cases hx) (fun x hx => by cases hx))
      (trodAll_cons_mk (read_on (ps := ([] : List MemPlace)) (by kernel_rfl) (of_decide_eq_true (by kernel_rfl)) h2k hb (fun x hx => by cases hx) (fun x hx => by cases hx))
      (trodAll_mk0))))
    (fun _ _ => rfl) (by simp) hb (ok_one (by kernel_rfl) rfl (okWide_bool_mk Tryd.underlying4 _))

abbrev wit : Array Value := #[.string .empty, .int .i64 0, .string .empty]
theorem reads (os : Os) {H : Type} (enc : TypeId × Value → H) : DataW.whole enc Tryd.prog ((World.laidAll Tryd.prog os laidAll).forCall (fun _ _ => 0) ⟨#[], wit, []⟩).memory Tryd.f6.params.toList Rows.listingTokensSpec.vars false wit.toList 8 = some ([.lit (.string []), .lit (.int .i64 0), .lit (.string [])], [], []) := by kernel_rfl

set_option maxRecDepth 100000 in
theorem lifted (os : Os) (started : os.Started) (H : Type) (enc : TypeId × Value → H) (F : Stop.Interp) :
    ReturnsInHanded {} Tryd.checked os 6 .any ((OpenSpec.ofChange Rows.listingTokensSpec).preRow enc Tryd.prog Tryd.f6 Rows.listingTokensRow.domain false Rows.listingTokensRow.laid) (((OpenSpec.ofChange Rows.listingTokensSpec).at F).post enc Tryd.prog Tryd.f6 false true false false) := by
  refine returnsInHanded_of_row (C := Tryd.checked) (s := (OpenSpec.ofChange Rows.listingTokensSpec)) own started (by kernel_rfl) Tryd.func6
    (witness_zip (enc := enc) (C := Tryd.checked) (World.laidAll Tryd.prog os laidAll) wit (World.laidAll_os _ _ _) (World.shaped_of_ZipB (by kernel_rfl) (by kernel_rfl)) (by kernel_rfl)
      (OpenSpec.preRow_of_cond 8 (reads os enc) (by kernel_rfl) (fun k hk => by cases hk) (by kernel_rfl) (laid_met os _))) ?_
  intro W base args ds gs before hval hW _ _ hR hL hsh _
  exact contract H enc W base args ds gs before hval hW _ hR hL hsh

theorem said : Rows.ListingTokensSaid :=
  OpenClaim.holds_of_cond 6 Tryd.f6 rfl rfl rfl rfl rfl rfl rfl ⟨rfl, rfl, rfl, rfl, rfl⟩ rfl rfl rfl rfl rfl (by kernel_rfl) Tryd.func6 (by kernel_rfl)
    (of_decide_eq_true (by kernel_rfl)) (by unfold Func.isWrapper; first | (rw [if_pos (by decide +kernel)]; kernel_rfl) | (rw [if_neg (by decide +kernel)]; exact ⟨rfl, rfl⟩))
    (fun os started H enc _ F => by rw [OpenClaim.pre_eq_preRow]; exact lifted os started H enc F)

theorem plain (f : FuncId) (fn : Func) (hf : Tryd.pinned.checked.prog.funcNamed "storehouse/storehouselaw20.ListingTokens" = some f) (hfn : Tryd.pinned.checked.prog.funcs[f]? = some fn) :
    true = Tryd.pinned.checked.prog.looks [] ∧ ∀ (j : Nat) t, fn.params[j]? = some t → Tryd.pinned.checked.prog.wantsStandIn t = false := by
  obtain rfl : f = 6 := Option.some.inj ((show Tryd.prog.funcNamed "storehouse/storehouselaw20.ListingTokens" = some 6 by kernel_rfl).symm.trans hf) |>.symm
  obtain rfl : fn = Tryd.f6 := (Option.some.inj (Tryd.func6.symm.trans hfn)).symm
  refine ⟨by kernel_rfl, fun j t ht => ?_⟩
  rw [Tryd.params6] at ht
  have hm : t ∈ ([9, 3, 9] : List TypeId) := by simpa using Array.mem_of_getElem? ht
  have hall : (([9, 3, 9] : List TypeId).all fun u => !Tryd.prog.wantsStandIn u) = true := by kernel_rfl
  exact (show Tryd.prog.wantsStandIn t = false by simpa using List.all_eq_true.1 hall t hm)

theorem card : Rows.ListingTokensCardSaid :=
  Claim7.holds_tied_plain_at .later [] _ _ _ _ said (fun _ h => by cases h) (by kernel_rfl) (fun _ h => by cases h) listingTokens_row_tie rfl ⟨rfl, rfl⟩ (by kernel_rfl) rfl plain (by kernel_rfl)
#print axioms card
end Go.Proofs.YtgklbmcnpnmkkaaDoor.rowListingTokens
