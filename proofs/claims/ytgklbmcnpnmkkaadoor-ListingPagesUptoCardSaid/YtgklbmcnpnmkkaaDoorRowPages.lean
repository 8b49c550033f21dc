/-
  The law ListingPages, the second form: whatever the rows, the prefix, the delimiter, the place and the numbers, of bulk at most 1048576 together, the call returns true; the arguments read as they did.
-/
import Derived.Test.YtgklbmcnpnmkkaaDoorCards
import Derived.Test.YtgklbmcnpnmkkaaDoorTie
import Derived.Test.YtgklbmcnpnmkkaaDoorLsPagesL
import Derived.Test.YtgklbmcnpnmkkaaDoorLsOpen
import Derived.Test.YtgklbmcnpnmkkaaDoorSm44
namespace Go.Proofs.YtgklbmcnpnmkkaaDoor.rowListingPagesUpto
open Go.ChangeShapes Go.WideShapes Go.ChangeAt Go.RowKit
open Go.ChangeMaps (open_string shut_string)


set_option maxHeartbeats 8000000 in
set_option maxRecDepth 100000 in
theorem contract (H : Type) (enc : TypeId × Value → H) (W : World) (base : Nat) (args : Array Value) (ds gs : List (DataW H)) (before : List MemPlace)
    (hval : ∀ (j : Nat) t v, Tryd.f7.params[j]? = some t → args[j]? = some v → Value.okWide Tryd.prog W .any base t v)
    (hW : DataW.Whole enc Tryd.prog Tryd.f7.params.toList Rows.listingPagesSpec.vars false W args.toList ds gs before)
    (hk : Rows.uptoSmall H (ds ++ gs) = true)
    (vt : List TypeId) (hR : (DataW.weightsEach Tryd.prog (Tryd.f7.params.toList ++ vt) (ds ++ gs)).all (· ≤ reachBytes) = true) (hL : laidMetH Tryd.prog Rows.listingPagesUptoRow.laid W) (hsh : W.ShapedOpen Tryd.prog) :
    Calls Tryd.prog 7 args W fun e W' => ∃ v, e = .returned v ∧ Rows.listingPagesSpec.post enc Tryd.prog Tryd.f7 false true false false W args v W' := by
  have hG : GlobL W := globL_of_laid hL hsh
  have hW' := hW
  obtain ⟨p, q, hA0, hV, rfl, hfz, hnd⟩ := hW
  have hA : DataW.TrodAll enc Tryd.prog W 0 (fun _ => true) true Tryd.f7.params.toList args.toList ds p := hA0
  rw [Tryd.params7] at hA hval hR
  obtain ⟨v0, vs0, d0, ds0, p0, q0, hargs, rfl, rfl, h0, r0⟩ := trodAll_cons hA
  obtain ⟨v1, vs1, d1, ds1, p1, q1, rfl, rfl, rfl, h1, r1⟩ := trodAll_cons r0
  obtain ⟨v2, vs2, d2, ds2, p2, q2, rfl, rfl, rfl, h2, r2⟩ := trodAll_cons r1
  obtain ⟨v3, vs3, d3, ds3, p3, q3, rfl, rfl, rfl, h3, r3⟩ := trodAll_cons r2
  obtain ⟨v4, vs4, d4, ds4, p4, q4, rfl, rfl, rfl, h4, r4⟩ := trodAll_cons r3
  obtain ⟨v5, vs5, d5, ds5, p5, q5, rfl, rfl, rfl, h5, r5⟩ := trodAll_cons r4
  obtain ⟨rfl, rfl, rfl⟩ := trodAll_nil r5
  obtain rfl : args = #[v0, v1, v2, v3, v4, v5] := by cases args; simp_all
  obtain ⟨rfl, rfl⟩ := trodVars_none hV
  clear hA0 hV hfz hnd
  have h0k := h0
  have h1k := h1
  have h2k := h2
  have h3k := h3
  have h4k := h4
  have h5k := h5
  have hR0 : ∀ m ∈ DataW.weights Tryd.prog 22 d0, m ≤ reachBytes := fun m hm => by simpa using List.all_eq_true.1 hR m (weightsEach_get _ _ 0 _ _ rfl rfl m hm)
  have hR1 : ∀ m ∈ DataW.weights Tryd.prog 9 d1, m ≤ reachBytes := fun m hm => by simpa using List.all_eq_true.1 hR m (weightsEach_get _ _ 1 _ _ rfl rfl m hm)
  have hR2 : ∀ m ∈ DataW.weights Tryd.prog 9 d2, m ≤ reachBytes := fun m hm => by simpa using List.all_eq_true.1 hR m (weightsEach_get _ _ 2 _ _ rfl rfl m hm)
  have hR3 : ∀ m ∈ DataW.weights Tryd.prog 9 d3, m ≤ reachBytes := fun m hm => by simpa using List.all_eq_true.1 hR m (weightsEach_get _ _ 3 _ _ rfl rfl m hm)
  have hR4 : ∀ m ∈ DataW.weights Tryd.prog 3 d4, m ≤ reachBytes := fun m hm => by simpa using List.all_eq_true.1 hR m (weightsEach_get _ _ 4 _ _ rfl rfl m hm)
  have hR5 : ∀ m ∈ DataW.weights Tryd.prog 3 d5, m ≤ reachBytes := fun m hm => by simpa using List.all_eq_true.1 hR m (weightsEach_get _ _ 5 _ _ rfl rfl m hm)
  clear hR
  obtain ⟨a1, rfl, rfl, rfl, w1⟩ := open_string Tryd.underlying9 (hval 1 _ v1 rfl rfl) h1
  obtain ⟨a2, rfl, rfl, rfl, w2⟩ := open_string Tryd.underlying9 (hval 2 _ v2 rfl rfl) h2
  obtain ⟨a3, rfl, rfl, rfl, w3⟩ := open_string Tryd.underlying9 (hval 3 _ v3 rfl rfl) h3
  obtain ⟨a4, rfl, rfl, rfl, w4⟩ := open_int Tryd.underlying3 (hval 4 _ v4 rfl rfl) h4
  obtain ⟨a5, rfl, rfl, rfl, w5⟩ := open_int Tryd.underlying3 (hval 5 _ v5 rfl rfl) h5
  have hb : Rows.uptoBulk d0 + ((a1.data.toList.length + 1) + ((a2.data.toList.length + 1) + ((a3.data.toList.length + 1) + (1 + 1)))) ≤ 1048576 := by
    have := bulks.bound hk
    simpa [Rows.uptoBulkAll, Rows.uptoBulk, bulks.string_eq] using this
  obtain ⟨a0, n0, k0, rfl⟩ := okWide_slice Tryd.underlying22 (hval 0 _ v0 rfl rfl)
  obtain ⟨f0, e0⟩ := h0
  obtain ⟨ps, a, c, es, sps, hcs, hes, hsl, hS, hln, hz, hbk⟩ := opn_rows e0 hR0
  obtain ⟨rfl, rfl, rfl⟩ : a0 = a ∧ n0 = ps.length ∧ k0 = c := by simpa [Value.cells] using hcs
  have hkey : ∀ p ∈ ps, p.d.key.length ≤ 1048576 := fun p hp => by
    obtain ⟨i, hi⟩ := List.getElem?_of_mem hp
    obtain ⟨d1, d2, d3, d4, hd⟩ := hbk i p hi
    have : p.d.key.length ≤ Rows.uptoBulk d0 := row_bulk hsl hd
    omega
  have hpl : ps.length ≤ 1048576 := by
    rcases hsl with hsl | ⟨hsl, _⟩
    · have h1 := bulks.slice_le es sps
      have h2 : Rows.uptoBulk (d0, p0).1 = Rows.uptoBulk d0 := rfl
      rw [← hsl, h2] at h1
      omega
    · rw [hsl] at hes
      simp at hes
      omega
  refine (pages_walk (pre := a1.data.toList) (delim := a2.data.toList) (after := a3.data.toList) (seq := a4) (most := a5) hG hS (fun p hp => (hz p hp).1) (fun p hp => Nat.lt_of_le_of_lt (hkey p hp) (by decide)) (by omega) (by omega) (by omega)).mono fun e W' ⟨he, hb⟩ => ?_
  subst he
  refine ⟨_, rfl, ?_⟩
  simp only [List.append_nil] at hW'
  have hlt : ∀ x ∈ (p0 ++ (([] : List MemPlace) ++ (([] : List MemPlace) ++ (([] : List MemPlace) ++ (([] : List MemPlace) ++ (([] : List MemPlace) ++ ([] : List MemPlace))))))), x.block < W.heap.size := fun x hx => hW'.lt x (by simpa using hx)
  exact post_of_below (ds := [_, _, _, _, _, _]) (gs := []) (pa := (p0 ++ (([] : List MemPlace) ++ (([] : List MemPlace) ++ (([] : List MemPlace) ++ (([] : List MemPlace) ++ (([] : List MemPlace) ++ ([] : List MemPlace)))))))) (pv := []) hW' (fun _ _ _ => trodAll_mk1 (shut_bool Tryd.underlying4 _))
    (fun sp hsp => trodAll_cons_mk (read_on (ps := p0) (by kernel_rfl) (of_decide_eq_true (by kernel_rfl)) h0k hb (fun x hx => hlt x (by simp [hx])) (fun x hx => hsp x (by simp [hx])))
      (trodAll_cons_mk (read_on (ps := ([] : List MemPlace)) (by kernel_rfl) (of_decide_eq_true (by kernel_rfl)) h1k hb (fun x hx => by cases hx) (fun x hx => by cases hx))
      (trodAll_cons_mk (read_on (ps := ([] : List MemPlace)) (by kernel_rfl) (of_decide_eq_true (by kernel_rfl)) h2k hb (fun x hx => by cases hx) (fun x hx => by cases hx))
      (trodAll_cons_mk (read_on (ps := ([] : List MemPlace)) (by kernel_rfl) (of_decide_eq_true (by kernel_rfl)) h3k hb (fun x hx => by cases hx) (fun x hx => by cases hx))
      (trodAll_cons_mk (read_on (ps := ([] : List MemPlace)) (by kernel_rfl) (of_decide_eq_true (by kernel_rfl)) h4k hb (fun x hx => by cases hx) (fun x hx => by cases hx))
      (trodAll_cons_mk (read_on (ps := ([] : List MemPlace)) (by kernel_rfl) (of_decide_eq_true (by kernel_rfl)) h5k hb (fun x hx => by cases hx) (fun x hx => by cases hx))
      (trodAll_mk0)))))))
    (fun _ _ => rfl) (by simp) hb (ok_one (by kernel_rfl) rfl (okWide_bool_mk Tryd.underlying4 _))

abbrev wit : Array Value := #[.slice none 0 0, .string .empty, .string .empty, .string .empty, .int .i64 0, .int .i64 0]
theorem reads (os : Os) {H : Type} (enc : TypeId × Value → H) : DataW.whole enc Tryd.prog ((World.laidAll Tryd.prog os laidAll).forCall (fun _ _ => 0) ⟨#[], wit, []⟩).memory Tryd.f7.params.toList Rows.listingPagesSpec.vars false wit.toList 8 = some ([.nil, .lit (.string []), .lit (.string []), .lit (.string []), .lit (.int .i64 0), .lit (.int .i64 0)], [], []) := by kernel_rfl

set_option maxRecDepth 100000 in
theorem lifted (os : Os) (started : os.Started) (H : Type) (enc : TypeId × Value → H) (F : Stop.Interp) :
    ReturnsInHanded {} Tryd.checked os 7 .any ((Rows.OpenSpec.upto Rows.listingPagesSpec).preRow enc Tryd.prog Tryd.f7 Rows.listingPagesUptoRow.domain false Rows.listingPagesUptoRow.laid) (((Rows.OpenSpec.upto Rows.listingPagesSpec).at F).post enc Tryd.prog Tryd.f7 false true false false) := by
  refine returnsInHanded_of_row (C := Tryd.checked) (s := (Rows.OpenSpec.upto Rows.listingPagesSpec)) own started (by kernel_rfl) Tryd.func7
    (witness_zip (enc := enc) (C := Tryd.checked) (World.laidAll Tryd.prog os laidAll) wit (World.laidAll_os _ _ _) (World.shaped_of_ZipB (by kernel_rfl) (by kernel_rfl)) (by kernel_rfl)
      (OpenSpec.preRow_of_cond 8 (reads os enc) (by kernel_rfl) (fun k hk => by cases hk; kernel_rfl) (by kernel_rfl) (laid_met os _))) ?_
  intro W base args ds gs before hval hW _ hcond hR hL hsh _
  exact contract H enc W base args ds gs before hval hW (hcond _ rfl) _ hR hL hsh

theorem said : Rows.ListingPagesUptoSaid :=
  OpenClaim.holds_of_cond 7 Tryd.f7 rfl rfl rfl rfl rfl rfl rfl ⟨rfl, rfl, rfl, rfl, rfl⟩ rfl rfl rfl rfl rfl (by kernel_rfl) Tryd.func7 (by kernel_rfl)
    (of_decide_eq_true (by kernel_rfl)) (by unfold Func.isWrapper; first | (rw [if_pos (by decide +kernel)]; kernel_rfl) | (rw [if_neg (by decide +kernel)]; exact ⟨rfl, rfl⟩))
    (fun os started H enc _ F => by rw [OpenClaim.pre_eq_preRow]; exact lifted os started H enc F)

theorem plain (f : FuncId) (fn : Func) (hf : Tryd.pinned.checked.prog.funcNamed "storehouse/storehouselaw20.ListingPages" = some f) (hfn : Tryd.pinned.checked.prog.funcs[f]? = some fn) :
    true = Tryd.pinned.checked.prog.looks [] ∧ ∀ (j : Nat) t, fn.params[j]? = some t → Tryd.pinned.checked.prog.wantsStandIn t = false := by
  obtain rfl : f = 7 := Option.some.inj ((show Tryd.prog.funcNamed "storehouse/storehouselaw20.ListingPages" = some 7 by kernel_rfl).symm.trans hf) |>.symm
  obtain rfl : fn = Tryd.f7 := (Option.some.inj (Tryd.func7.symm.trans hfn)).symm
  refine ⟨by kernel_rfl, fun j t ht => ?_⟩
  rw [Tryd.params7] at ht
  have hm : t ∈ ([22, 9, 9, 9, 3, 3] : List TypeId) := by simpa using Array.mem_of_getElem? ht
  have hall : (([22, 9, 9, 9, 3, 3] : List TypeId).all fun u => !Tryd.prog.wantsStandIn u) = true := by kernel_rfl
  exact (show Tryd.prog.wantsStandIn t = false by simpa using List.all_eq_true.1 hall t hm)

theorem card : Rows.ListingPagesUptoCardSaid :=
  Claim7.holds_tied_plain_at .later [] _ _ _ _ said (fun _ h => by cases h) (by kernel_rfl) (fun _ h => by cases h) listingPagesUpto_row_tie rfl ⟨rfl, rfl⟩ (by kernel_rfl) rfl plain (by kernel_rfl)
#print axioms card
end Go.Proofs.YtgklbmcnpnmkkaaDoor.rowListingPagesUpto
