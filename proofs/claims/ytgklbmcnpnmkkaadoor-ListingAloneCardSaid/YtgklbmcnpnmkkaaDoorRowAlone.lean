/-
  The law ListingAlone: whatever the rows, the call returns true; the argument reads as it did. No condition.
-/
import Derived.Test.YtgklbmcnpnmkkaaDoorCards
import Derived.Test.YtgklbmcnpnmkkaaDoorTie
import Derived.Test.YtgklbmcnpnmkkaaDoorLsAlone
import Derived.Test.YtgklbmcnpnmkkaaDoorLsSorted
import Derived.Test.YtgklbmcnpnmkkaaDoorLsOpen
import Derived.Test.YtgklbmcnpnmkkaaDoorLsRowKit
namespace Go.Proofs.YtgklbmcnpnmkkaaDoor.rowListingAlone
open Go.ChangeShapes Go.WideShapes Go.ChangeAt Go.RowKit
open Go.ChangeMaps (open_string shut_string)


set_option maxHeartbeats 8000000 in
set_option maxRecDepth 100000 in
theorem contract (H : Type) (enc : TypeId × Value → H) (W : World) (base : Nat) (args : Array Value) (ds gs : List (DataW H)) (before : List MemPlace)
    (hval : ∀ (j : Nat) t v, Tryd.f5.params[j]? = some t → args[j]? = some v → Value.okWide Tryd.prog W .any base t v)
    (hW : DataW.Whole enc Tryd.prog Tryd.f5.params.toList Rows.listingAloneSpec.vars false W args.toList ds gs before)
    (vt : List TypeId) (hR : (DataW.weightsEach Tryd.prog (Tryd.f5.params.toList ++ vt) (ds ++ gs)).all (· ≤ reachBytes) = true) (hL : laidMetH Tryd.prog Rows.listingAloneRow.laid W) (hsh : W.ShapedOpen Tryd.prog) :
    Calls Tryd.prog 5 args W fun e W' => ∃ v, e = .returned v ∧ Rows.listingAloneSpec.post enc Tryd.prog Tryd.f5 false true false false W args v W' := by
  have hG : GlobL W := globL_of_laid hL hsh
  have hW' := hW
  obtain ⟨p, q, hA0, hV, rfl, hfz, hnd⟩ := hW
  have hA : DataW.TrodAll enc Tryd.prog W 0 (fun _ => true) true Tryd.f5.params.toList args.toList ds p := hA0
  rw [Tryd.params5] at hA hval hR
  obtain ⟨v0, vs0, d0, ds0, p0, q0, hargs, rfl, rfl, h0, r0⟩ := trodAll_cons hA
  obtain ⟨rfl, rfl, rfl⟩ := trodAll_nil r0
  obtain rfl : args = #[v0] := by cases args; simp_all
  obtain ⟨rfl, rfl⟩ := trodVars_none hV
  clear hA0 hV hfz hnd
  have h0k := h0
  have hR0 : ∀ m ∈ DataW.weights Tryd.prog 22 d0, m ≤ reachBytes := fun m hm => by simpa using List.all_eq_true.1 hR m (weightsEach_get _ _ 0 _ _ rfl rfl m hm)
  clear hR
  obtain ⟨a0, n0, k0, rfl⟩ := okWide_slice Tryd.underlying22 (hval 0 _ v0 rfl rfl)
  obtain ⟨f0, e0⟩ := h0
  obtain ⟨ps, a, c, es, sps, hcs, _, _, hS, hln, hz, _⟩ := opn_rows e0 hR0
  obtain ⟨rfl, rfl, rfl⟩ : a0 = a ∧ n0 = ps.length ∧ k0 = c := by simpa [Value.cells] using hcs
  have hkey : ∀ p ∈ ps, p.d.key.length ≤ 140737488355320 := fun p hp => Nat.le_trans (hz p hp).2 (by decide)
  refine (alone_walk hG hS (fun p hp => (hz p hp).1) hkey (by omega) (fun W' hW => sorted_any (hS.later hW) hkey (by omega))).mono fun e W' ⟨he, hb⟩ => ?_
  subst he
  refine ⟨_, rfl, ?_⟩
  simp only [List.append_nil] at hW'
  have hlt : ∀ x ∈ (p0 ++ ([] : List MemPlace)), x.block < W.heap.size := fun x hx => hW'.lt x (by simpa using hx)
  exact post_of_below (ds := [_]) (gs := []) (pa := (p0 ++ ([] : List MemPlace))) (pv := []) hW' (fun _ _ _ => trodAll_mk1 (shut_bool Tryd.underlying4 _))
    (fun sp hsp => trodAll_cons_mk (read_on (ps := p0) (by kernel_rfl) (of_decide_eq_true (by kernel_rfl)) h0k hb (fun x hx => hlt x (by simp [hx])) (fun x hx => hsp x (by simp [hx])))
      (trodAll_mk0))
    (fun _ _ => rfl) (by simp) hb (ok_one (by kernel_rfl) rfl (okWide_bool_mk Tryd.underlying4 _))

abbrev wit : Array Value := #[.slice none 0 0]
theorem reads (os : Os) {H : Type} (enc : TypeId × Value → H) : DataW.whole enc Tryd.prog ((World.laidAll Tryd.prog os laidAll).forCall (fun _ _ => 0) ⟨#[], wit, []⟩).memory Tryd.f5.params.toList Rows.listingAloneSpec.vars false wit.toList 8 = some ([.nil], [], []) := by kernel_rfl

set_option maxRecDepth 100000 in
theorem lifted (os : Os) (started : os.Started) (H : Type) (enc : TypeId × Value → H) (F : Stop.Interp) :
    ReturnsInHanded {} Tryd.checked os 5 .any ((OpenSpec.ofChange Rows.listingAloneSpec).preRow enc Tryd.prog Tryd.f5 Rows.listingAloneRow.domain false Rows.listingAloneRow.laid) (((OpenSpec.ofChange Rows.listingAloneSpec).at F).post enc Tryd.prog Tryd.f5 false true false false) := by
  refine returnsInHanded_of_row (C := Tryd.checked) (s := (OpenSpec.ofChange Rows.listingAloneSpec)) own started (by kernel_rfl) Tryd.func5
    (witness_zip (enc := enc) (C := Tryd.checked) (World.laidAll Tryd.prog os laidAll) wit (World.laidAll_os _ _ _) (World.shaped_of_ZipB (by kernel_rfl) (by kernel_rfl)) (by kernel_rfl)
      (OpenSpec.preRow_of_cond 8 (reads os enc) (by kernel_rfl) (fun k hk => by cases hk) (by kernel_rfl) (laid_met os _))) ?_
  intro W base args ds gs before hval hW _ _ hR hL hsh _
  exact contract H enc W base args ds gs before hval hW _ hR hL hsh

theorem said : Rows.ListingAloneSaid :=
  OpenClaim.holds_of_cond 5 Tryd.f5 rfl rfl rfl rfl rfl rfl rfl ⟨rfl, rfl, rfl, rfl, rfl⟩ rfl rfl rfl rfl rfl (by kernel_rfl) Tryd.func5 (by kernel_rfl)
    (of_decide_eq_true (by kernel_rfl)) (by unfold Func.isWrapper; first | (rw [if_pos (by decide +kernel)]; kernel_rfl) | (rw [if_neg (by decide +kernel)]; exact ⟨rfl, rfl⟩))
    (fun os started H enc _ F => by rw [OpenClaim.pre_eq_preRow]; exact lifted os started H enc F)

theorem plain (f : FuncId) (fn : Func) (hf : Tryd.pinned.checked.prog.funcNamed "storehouse/storehouselaw20.ListingAlone" = some f) (hfn : Tryd.pinned.checked.prog.funcs[f]? = some fn) :
    true = Tryd.pinned.checked.prog.looks [] ∧ ∀ (j : Nat) t, fn.params[j]? = some t → Tryd.pinned.checked.prog.wantsStandIn t = false := by
  obtain rfl : f = 5 := Option.some.inj ((show Tryd.prog.funcNamed "storehouse/storehouselaw20.ListingAlone" = some 5 by kernel_rfl).symm.trans hf) |>.symm
  obtain rfl : fn = Tryd.f5 := (Option.some.inj (Tryd.func5.symm.trans hfn)).symm
  refine ⟨by kernel_rfl, fun j t ht => ?_⟩
  rw [Tryd.params5] at ht
  have hm : t ∈ ([22] : List TypeId) := by simpa using Array.mem_of_getElem? ht
  have hall : (([22] : List TypeId).all fun u => !Tryd.prog.wantsStandIn u) = true := by kernel_rfl
  exact (show Tryd.prog.wantsStandIn t = false by simpa using List.all_eq_true.1 hall t hm)

theorem card : Rows.ListingAloneCardSaid :=
  Claim7.holds_tied_plain_at .later [] _ _ _ _ said (fun _ h => by cases h) (by kernel_rfl) (fun _ h => by cases h) listingAlone_row_tie rfl ⟨rfl, rfl⟩ (by kernel_rfl) rfl plain (by kernel_rfl)
#print axioms card
end Go.Proofs.YtgklbmcnpnmkkaaDoor.rowListingAlone
