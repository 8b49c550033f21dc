/-
  The law MetaBack, the second form: whatever the bucket, the version, the upload and the part, of bulk at most 1048576 together, the call returns true; the arguments read as they did.
-/
import Derived.Test.YtajmkkjlhmeolaaGreatDoorCards
import Derived.Test.YtajmkkjlhmeolaaGreatDoorTie
import Derived.Test.YtajmkkjlhmeolaaGreatDoorMtBack
import Derived.Test.YtajmkkjlhmeolaaGreatDoorMtOpen19
import Derived.Test.YtajmkkjlhmeolaaGreatDoorSm46
namespace Go.Proofs.YtajmkkjlhmeolaaGreatDoor.rowMetaBackUpto
open Go.ChangeShapes Go.WideShapes Go.ChangeAt Go.RowKit
open Go.ChangeMaps (open_string shut_string)


set_option maxHeartbeats 8000000 in
set_option maxRecDepth 100000 in
theorem contract (H : Type) (enc : TypeId × Value → H) (W : World) (base : Nat) (args : Array Value) (ds gs : List (DataW H)) (before : List MemPlace)
    (hval : ∀ (j : Nat) t v, Tryz.f7.params[j]? = some t → args[j]? = some v → Value.okWide Tryz.prog W .any base t v)
    (hW : DataW.Whole enc Tryz.prog Tryz.f7.params.toList Rows.metaBackSpec.vars false W args.toList ds gs before)
    (hk : Rows.uptoSmall H (ds ++ gs) = true)
    (vt : List TypeId) (hR : (DataW.weightsEach Tryz.prog (Tryz.f7.params.toList ++ vt) (ds ++ gs)).all (· ≤ reachBytes) = true) (hL : laidMetH Tryz.prog Rows.metaBackUptoRow.laid W) (hsh : W.ShapedOpen Tryz.prog) :
    Calls Tryz.prog 7 args W fun e W' => ∃ v, e = .returned v ∧ Rows.metaBackSpec.post enc Tryz.prog Tryz.f7 false true false false W args v W' := by
  have hG : GlobK W := globK_of_laid hL hsh
  have hW' := hW
  obtain ⟨p, q, hA0, hV, rfl, hfz, hnd⟩ := hW
  have hA : DataW.TrodAll enc Tryz.prog W 0 (fun _ => true) true Tryz.f7.params.toList args.toList ds p := hA0
  rw [Tryz.params7] at hA hval hR
  obtain ⟨v0, vs0, d0, ds0, p0, q0, hargs, rfl, rfl, h0, r0⟩ := trodAll_cons hA
  obtain ⟨v1, vs1, d1, ds1, p1, q1, rfl, rfl, rfl, h1, r1⟩ := trodAll_cons r0
  obtain ⟨v2, vs2, d2, ds2, p2, q2, rfl, rfl, rfl, h2, r2⟩ := trodAll_cons r1
  obtain ⟨v3, vs3, d3, ds3, p3, q3, rfl, rfl, rfl, h3, r3⟩ := trodAll_cons r2
  obtain ⟨rfl, rfl, rfl⟩ := trodAll_nil r3
  obtain rfl : args = #[v0, v1, v2, v3] := by cases args; simp_all
  obtain ⟨rfl, rfl⟩ := trodVars_none hV
  clear hA0 hV hfz hnd
  have h0k := h0
  have h1k := h1
  have h2k := h2
  have h3k := h3
  have hR0 : ∀ m ∈ DataW.weights Tryz.prog 41 d0, m ≤ reachBytes := fun m hm => by simpa using List.all_eq_true.1 hR m (weightsEach_get _ _ 0 _ _ rfl rfl m hm)
  have hR1 : ∀ m ∈ DataW.weights Tryz.prog 47 d1, m ≤ reachBytes := fun m hm => by simpa using List.all_eq_true.1 hR m (weightsEach_get _ _ 1 _ _ rfl rfl m hm)
  have hR2 : ∀ m ∈ DataW.weights Tryz.prog 52 d2, m ≤ reachBytes := fun m hm => by simpa using List.all_eq_true.1 hR m (weightsEach_get _ _ 2 _ _ rfl rfl m hm)
  have hR3 : ∀ m ∈ DataW.weights Tryz.prog 56 d3, m ≤ reachBytes := fun m hm => by simpa using List.all_eq_true.1 hR m (weightsEach_get _ _ 3 _ _ rfl rfl m hm)
  clear hR
  have hbd : ∀ d ∈ [d0, d1, d2, d3], Rows.uptoBulk d ≤ 1048576 := fun d hd => Nat.le_trans (bulks.part_le (List.mem_append_left _ hd)) (bulks.bound hk)
  have hk0 := hbd d0 (by simp)
  have hk1 := hbd d1 (by simp)
  have hk2 := hbd d2 (by simp)
  have hk3 := hbd d3 (by simp)
  obtain ⟨cs0, rfl, _⟩ := okWide_struct Tryz.underlying41 (hval 0 _ v0 rfl rfl)
  obtain ⟨cs1, rfl, _⟩ := okWide_struct Tryz.underlying47 (hval 1 _ v1 rfl rfl)
  obtain ⟨cs2, rfl, _⟩ := okWide_struct Tryz.underlying52 (hval 2 _ v2 rfl rfl)
  obtain ⟨cs3, rfl, _⟩ := okWide_struct Tryz.underlying56 (hval 3 _ v3 rfl rfl)
  obtain ⟨f0, e0⟩ := h0
  obtain ⟨f1, e1⟩ := h1
  obtain ⟨f2, e2⟩ := h2
  obtain ⟨f3, e3⟩ := h3
  obtain ⟨bn, bo, bp, bwh, bmd, c0, g0, y0, hc0, obwh, obmd, t0, hx0⟩ := opn_bucket e0
  obtain ⟨vsq, vnu, vmk, vet, vty, vsz, vwh, c1, g1, y1, hc1, ovsq, ovsz, ovwh, t1, hx1⟩ := opn_version e1
  obtain ⟨usq, ubu, uke, uty, uow, uwh, upt, g2, y2, hc2, ousq, ouwh, t2, hx2⟩ := opn_upload e2
  obtain ⟨pnm, psz, pwh, pet, pbl, hc3, opnm, opsz, opwh, opbl, hx3⟩ := opn_part e3
  simp only at hx0 hx1 hx2 hx3
  subst hx0 hx1 hx2 hx3
  obtain ⟨brl, bv, es0, sp0, hcs0, hes0, hsl0, hbS, hbI⟩ := opn_rules t0 (fun m hm => hR0 m (by
    rw [DataW.weights, Tryz.underlying41]
    exact List.mem_append_right _ (List.mem_append_right _ (List.mem_append_right _ (List.mem_append_right _ (List.mem_append_right _ (List.mem_append_left _ hm)))))))
  obtain ⟨vbl, vv, es1, sp1, hcs1, hes1, hsl1, hvS, hvI⟩ := opn_ints t1 (fun m hm => hR1 m (by
    rw [DataW.weights, Tryz.underlying47]
    exact List.mem_append_right _ (List.mem_append_right _ (List.mem_append_right _ (List.mem_append_right _ (List.mem_append_right _ (List.mem_append_right _ (List.mem_append_right _ (List.mem_append_left _ hm)))))))))
  have hu9 := opn_slice Tryz.underlying50 t2
  obtain rfl : c0 = bv := by simpa using hcs0
  obtain rfl : c1 = vv := by simpa using hcs1
  obtain rfl : cs0 = #[.string ⟨bn.toArray⟩, .string ⟨bo.toArray⟩, .string ⟨bp.toArray⟩, .int .i64 bwh, .int .i64 bmd, c0] := by cases cs0; simp [Value.cells] at hc0; rw [hc0]
  obtain rfl : cs1 = #[.int .i64 vsq, .bool vnu, .bool vmk, .string ⟨vet.toArray⟩, .string ⟨vty.toArray⟩, .int .i64 vsz, .int .i64 vwh, c1] := by cases cs1; simp [Value.cells] at hc1; rw [hc1]
  obtain rfl : cs2 = #[.int .i64 usq, .string ⟨ubu.toArray⟩, .string ⟨uke.toArray⟩, .string ⟨uty.toArray⟩, .string ⟨uow.toArray⟩, .int .i64 uwh, upt] := by cases cs2; simp [Value.cells] at hc2; rw [hc2]
  obtain rfl : cs3 = #[.int .i64 pnm, .int .i64 psz, .int .i64 pwh, .string ⟨pet.toArray⟩, .int .i64 pbl] := by cases cs3; simp [Value.cells] at hc3; rw [hc3]
  have sbn := str_bulk (s := bn) (by simp) hk0
  have sbo := str_bulk (s := bo) (by simp) hk0
  have sbp := str_bulk (s := bp) (by simp) hk0
  have svet := str_bulk (s := vet) (by simp) hk1
  have svty := str_bulk (s := vty) (by simp) hk1
  have subu := str_bulk (s := ubu) (by simp) hk2
  have suke := str_bulk (s := uke) (by simp) hk2
  have suty := str_bulk (s := uty) (by simp) hk2
  have suow := str_bulk (s := uow) (by simp) hk2
  have spet := str_bulk (s := pet) (by simp) hk3
  have hby0 : Rows.uptoBulk y0.1 ≤ 1048576 := Nat.le_trans (in_bulk (by simp)) hk0
  have hby1 : Rows.uptoBulk y1.1 ≤ 1048576 := Nat.le_trans (in_bulk (by simp)) hk1
  have lbr : brl.length ≤ 1048576 := by have := len_bulk hsl0; omega
  have lvb : vbl.length ≤ 1048576 := by have := len_bulk hsl1; omega
  have hbR : ∀ r ∈ brl, (IntOK r.days ∧ IntOK r.nonc ∧ IntOK r.abort) ∧ r.id.length ≤ 1048576 ∧ r.pre.length ≤ 1048576 := fun r hr => by
    obtain ⟨i, hi⟩ := List.getElem?_of_mem hr
    obtain ⟨ho, hd⟩ := hbI i r hi
    have hb := Nat.le_trans (elem_bulk hsl0 hd) hby0
    exact ⟨ho, str_bulk (by simp) hb, str_bulk (by simp) hb⟩
  have hbr : ∀ r ∈ brl, RlShort r := fun r hr => by
    obtain ⟨⟨a, b, c⟩, d, e⟩ := hbR r hr
    exact ⟨a, b, c, by show _ < _; omega, by show _ < _; omega⟩
  have hb4 : Short bn := by show _ < _; omega
  have hb5 : Short bo := by show _ < _; omega
  have hb6 : Short bp := by show _ < _; omega
  have hv5 : Short vet := by show _ < _; omega
  have hv6 : Short vty := by show _ < _; omega
  have hu3 : Short ubu := by show _ < _; omega
  have hu4 : Short uke := by show _ < _; omega
  have hu5 : Short uty := by show _ < _; omega
  have hu6 : Short uow := by show _ < _; omega
  have hp2 : Short pet := by show _ < _; omega
  have hb8 : (bkL ⟨bn, bo, bp, bwh, bmd, brl⟩).length ≤ 140737488351232 := bk_bound obwh obmd hbR sbn sbo sbp lbr
  have hv8 : (verL ⟨vsq, vnu, vmk, vet, vty, vsz, vwh, vbl⟩).length ≤ 140737488351232 := ver_bound ovsq ovsz ovwh hvI svet svty lvb
  have hu8 : (upL ⟨usq, ubu, uke, uty, uow, uwh⟩).length ≤ 140737488351232 := up_bound ousq ouwh subu suke suty suow
  have hp8 : (partL ⟨pnm, psz, pwh, pet, pbl⟩).length ≤ 140737488351232 := part_bound ⟨opnm, opsz, opwh, opbl⟩ spet
  have hq1 : bn.length ≤ 140737488351232 := by omega
  have hq2 : brl.length ≤ 1000000000000 := by omega
  have hq3 : vbl.length ≤ 1000000000000 := by omega
  have hq4 : ubu.length ≤ 140737488351232 := by omega
  refine (back_walk ⟨bn, bo, bp, bwh, bmd, brl⟩ c0 ⟨vsq, vnu, vmk, vet, vty, vsz, vwh, vbl⟩ c1 ⟨usq, ubu, uke, uty, uow, uwh⟩ upt ⟨pnm, psz, pwh, pet, pbl⟩ W hG obwh obmd hbr hb4 hb5 hb6 hbS hb8 ovsq ovsz ovwh hvI hv5 hv6 hvS hv8 ousq ouwh hu3 hu4 hu5 hu6 hu8 hu9 ⟨opnm, opsz, opwh, opbl⟩ hp2 hp8).mono fun e W' ⟨he, hb⟩ => ?_
  subst he
  refine ⟨_, rfl, ?_⟩
  simp only [List.append_nil] at hW'
  have hlt : ∀ x ∈ (p0 ++ (p1 ++ (p2 ++ (p3 ++ ([] : List MemPlace))))), x.block < W.heap.size := fun x hx => hW'.lt x (by simpa using hx)
  exact post_of_below (ds := [_, _, _, _]) (gs := []) (pa := (p0 ++ (p1 ++ (p2 ++ (p3 ++ ([] : List MemPlace)))))) (pv := []) hW' (fun _ _ _ => trodAll_mk1 (shut_bool Tryz.underlying4 _))
    (fun sp hsp => trodAll_cons_mk (read_on (ps := p0) (by kernel_rfl) (of_decide_eq_true (by kernel_rfl)) h0k hb (fun x hx => hlt x (by simp [hx])) (fun x hx => hsp x (by simp [hx])))
      (trodAll_cons_mk (read_on (ps := p1) (by kernel_rfl) (of_decide_eq_true (by kernel_rfl)) h1k hb (fun x hx => hlt x (by simp [hx])) (fun x hx => hsp x (by simp [hx])))
      (trodAll_cons_mk (read_on (ps := p2) (by kernel_rfl) (of_decide_eq_true (by kernel_rfl)) h2k hb (fun x hx => hlt x (by simp [hx])) (fun x hx => hsp x (by simp [hx])))
      (trodAll_cons_mk (read_on (ps := p3) (by kernel_rfl) (of_decide_eq_true (by kernel_rfl)) h3k hb (fun x hx => hlt x (by simp [hx])) (fun x hx => hsp x (by simp [hx])))
      (trodAll_mk0)))))
    (fun _ _ => rfl) (by simp) hb (ok_one (by kernel_rfl) rfl (okWide_bool_mk Tryz.underlying4 _))

abbrev wit : Array Value := #[.agg #[.string .empty, .string .empty, .string .empty, .int .i64 0, .int .i64 0, .slice none 0 0], .agg #[.int .i64 0, .bool false, .bool false, .string .empty, .string .empty, .int .i64 0, .int .i64 0, .slice none 0 0], .agg #[.int .i64 0, .string .empty, .string .empty, .string .empty, .string .empty, .int .i64 0, .slice none 0 0], .agg #[.int .i64 0, .int .i64 0, .int .i64 0, .string .empty, .int .i64 0]]
theorem reads (os : Os) {H : Type} (enc : TypeId × Value → H) : DataW.whole enc Tryz.prog ((World.laidAll Tryz.prog os laidAll).forCall (fun _ _ => 0) ⟨#[], wit, []⟩).memory Tryz.f7.params.toList Rows.metaBackSpec.vars false wit.toList 8 = some ([.agg [.lit (.string []), .lit (.string []), .lit (.string []), .lit (.int .i64 0), .lit (.int .i64 0), .nil], .agg [.lit (.int .i64 0), .lit (.bool false), .lit (.bool false), .lit (.string []), .lit (.string []), .lit (.int .i64 0), .lit (.int .i64 0), .nil], .agg [.lit (.int .i64 0), .lit (.string []), .lit (.string []), .lit (.string []), .lit (.string []), .lit (.int .i64 0), .nil], .agg [.lit (.int .i64 0), .lit (.int .i64 0), .lit (.int .i64 0), .lit (.string []), .lit (.int .i64 0)]], [], []) := by kernel_rfl

set_option maxRecDepth 100000 in
theorem lifted (os : Os) (started : os.Started) (H : Type) (enc : TypeId × Value → H) (F : Stop.Interp) :
    ReturnsInHanded {} Tryz.checked os 7 .any ((Rows.OpenSpec.upto Rows.metaBackSpec).preRow enc Tryz.prog Tryz.f7 Rows.metaBackUptoRow.domain false Rows.metaBackUptoRow.laid) (((Rows.OpenSpec.upto Rows.metaBackSpec).at F).post enc Tryz.prog Tryz.f7 false true false false) := by
  refine returnsInHanded_of_row (C := Tryz.checked) (s := (Rows.OpenSpec.upto Rows.metaBackSpec)) own started (by kernel_rfl) Tryz.func7
    (witness_zip (enc := enc) (C := Tryz.checked) (World.laidAll Tryz.prog os laidAll) wit (World.laidAll_os _ _ _) (World.shaped_of_ZipB (by kernel_rfl) (by kernel_rfl)) (by kernel_rfl)
      (OpenSpec.preRow_of_cond 8 (reads os enc) (by kernel_rfl) (fun k hk => by cases hk; kernel_rfl) (by kernel_rfl) (laid_met os _))) ?_
  intro W base args ds gs before hval hW _ hcond hR hL hsh _
  exact contract H enc W base args ds gs before hval hW (hcond _ rfl) _ hR hL hsh

theorem said : Rows.MetaBackUptoSaid :=
  OpenClaim.holds_of_cond 7 Tryz.f7 rfl rfl rfl rfl rfl rfl rfl ⟨rfl, rfl, rfl, rfl, rfl⟩ rfl rfl rfl rfl rfl (by kernel_rfl) Tryz.func7 (by kernel_rfl)
    (of_decide_eq_true (by kernel_rfl)) (by unfold Func.isWrapper; first | (rw [if_pos (by decide +kernel)]; kernel_rfl) | (rw [if_neg (by decide +kernel)]; exact ⟨rfl, rfl⟩))
    (fun os started H enc _ F => by rw [OpenClaim.pre_eq_preRow]; exact lifted os started H enc F)

theorem plain (f : FuncId) (fn : Func) (hf : Tryz.pinned.checked.prog.funcNamed "storehouse/storehouselaw19.MetaBack" = some f) (hfn : Tryz.pinned.checked.prog.funcs[f]? = some fn) :
    true = Tryz.pinned.checked.prog.looks [] ∧ ∀ (j : Nat) t, fn.params[j]? = some t → Tryz.pinned.checked.prog.wantsStandIn t = false := by
  obtain rfl : f = 7 := Option.some.inj ((show Tryz.prog.funcNamed "storehouse/storehouselaw19.MetaBack" = some 7 by kernel_rfl).symm.trans hf) |>.symm
  obtain rfl : fn = Tryz.f7 := (Option.some.inj (Tryz.func7.symm.trans hfn)).symm
  refine ⟨by kernel_rfl, fun j t ht => ?_⟩
  rw [Tryz.params7] at ht
  have hm : t ∈ ([41, 47, 52, 56] : List TypeId) := by simpa using Array.mem_of_getElem? ht
  have hall : (([41, 47, 52, 56] : List TypeId).all fun u => !Tryz.prog.wantsStandIn u) = true := by kernel_rfl
  exact (show Tryz.prog.wantsStandIn t = false by simpa using List.all_eq_true.1 hall t hm)

theorem card : Rows.MetaBackUptoCardSaid :=
  Claim7.holds_tied_plain_at .later [] _ _ _ _ said (fun _ h => by cases h) (by kernel_rfl) (fun _ h => by cases h) metaBackUpto_row_tie rfl ⟨rfl, rfl⟩ (by kernel_rfl) rfl plain (by kernel_rfl)
#print axioms card
end Go.Proofs.YtajmkkjlhmeolaaGreatDoor.rowMetaBackUpto
