/-
  The law CycleOff, the second form: whatever the bucket, the rows, the uploads and the moment, of bulk at most 1048576 together, the call returns true; the arguments read as they did.
-/
import Derived.Test.YtnnfcbebjbfkoaaDoorCards
import Derived.Test.YtnnfcbebjbfkoaaDoorTie
import Derived.Test.YtnnfcbebjbfkoaaDoorCyOff
import Derived.Test.YtnnfcbebjbfkoaaDoorOpenCy
import Derived.Test.YtnnfcbebjbfkoaaDoorBulk
import Derived.Test.YtnnfcbebjbfkoaaDoorRowKit
namespace Go.Proofs.YtnnfcbebjbfkoaaDoor.rowCycleOffUpto
open Go.ChangeShapes Go.WideShapes Go.ChangeAt Go.RowKit
open Go.ChangeMaps (open_string shut_string)

theorem elem_bulk {H : Type} {x : DataW H} {es sps : List (DataW H)} (h : x = .slice es sps ∨ (es = [] ∧ x = .nil)) {i : Nat} {d : DataW H} (hd : es[i]? = some d) : Rows.uptoBulk d ≤ Rows.uptoBulk x := by
  rcases h with rfl | ⟨rfl, _⟩
  · have := bulks.part_le (List.mem_of_getElem? hd)
    have := bulks.slice_elems es sps
    omega
  · simp at hd
theorem len_bulk {H : Type} {x : DataW H} {es sps : List (DataW H)} (h : x = .slice es sps ∨ (es = [] ∧ x = .nil)) : es.length ≤ Rows.uptoBulk x := by
  rcases h with rfl | ⟨rfl, _⟩
  · have := bulks.slice_le es sps
    omega
  · simp
theorem string_bulk {H : Type} {s : ByteArray} {l : List (DataW H)} (h : DataW.lit (.string s.data.toList) ∈ l) : s.size ≤ Rows.uptoBulk (.agg l) := by
  have h1 := bulks.part_le h
  rw [bulks.string_eq] at h1
  simp only [Rows.uptoBulk]
  have : s.data.toList.length = s.size := by rw [Array.length_toList]; rfl
  omega

set_option maxHeartbeats 1000000 in
set_option maxRecDepth 100000 in
theorem contract (H : Type) (enc : TypeId × Value → H) (W : World) (base : Nat) (args : Array Value) (ds gs : List (DataW H)) (before : List MemPlace)
    (hval : ∀ (j : Nat) t v, Tryd.f5.params[j]? = some t → args[j]? = some v → Value.okWide Tryd.prog W .any base t v)
    (hW : DataW.Whole enc Tryd.prog Tryd.f5.params.toList Rows.cycleOffSpec.vars false W args.toList ds gs before)
    (hk : Rows.uptoSmall H (ds ++ gs) = true)
    (vt : List TypeId) (hR : (DataW.weightsEach Tryd.prog (Tryd.f5.params.toList ++ vt) (ds ++ gs)).all (· ≤ reachBytes) = true) (hL : laidMetH Tryd.prog Rows.cycleOffUptoRow.laid W) :
    Calls Tryd.prog 5 args W fun e W' => ∃ v, e = .returned v ∧ Rows.cycleOffSpec.post enc Tryd.prog Tryd.f5 false true false false W args v W' := by
  have hG : Glob W := glob_of_laid hL
  have hW' := hW
  obtain ⟨p, q, hA0, hV, rfl, hfz, hnd⟩ := hW
  have hA : DataW.TrodAll enc Tryd.prog W 0 (fun _ => true) true Tryd.f5.params.toList args.toList ds p := hA0
  rw [Tryd.params5] at hA hval hR
  obtain ⟨v0, vs0, d0, ds0, p0, q0, hargs, rfl, rfl, h0, r0⟩ := trodAll_cons hA
  obtain ⟨v1, vs1, d1, ds1, p1, q1, rfl, rfl, rfl, h1, r1⟩ := trodAll_cons r0
  obtain ⟨v2, vs2, d2, ds2, p2, q2, rfl, rfl, rfl, h2, r2⟩ := trodAll_cons r1
  obtain ⟨v3, vs3, d3, ds3, p3, q3, rfl, rfl, rfl, h3, r3⟩ := trodAll_cons r2
  obtain ⟨rfl, rfl, rfl⟩ := trodAll_nil r3
  obtain rfl : args = #[v0, v1, v2, v3] := by cases args; simp_all
  obtain ⟨rfl, rfl⟩ := trodVars_none hV
  clear hA0 hV hfz hnd
  have h0k := h0
  have h1k := h1
  have h2k := h2
  have h3k := h3
  have hR0 : ∀ m ∈ DataW.weights Tryd.prog 41 d0, m ≤ reachBytes := fun m hm => by simpa using List.all_eq_true.1 hR m (weightsEach_get _ _ 0 _ _ rfl rfl m hm)
  have hR1 : ∀ m ∈ DataW.weights Tryd.prog 42 d1, m ≤ reachBytes := fun m hm => by simpa using List.all_eq_true.1 hR m (weightsEach_get _ _ 1 _ _ rfl rfl m hm)
  have hR2 : ∀ m ∈ DataW.weights Tryd.prog 43 d2, m ≤ reachBytes := fun m hm => by simpa using List.all_eq_true.1 hR m (weightsEach_get _ _ 2 _ _ rfl rfl m hm)
  have hR3 : ∀ m ∈ DataW.weights Tryd.prog 3 d3, m ≤ reachBytes := fun m hm => by simpa using List.all_eq_true.1 hR m (weightsEach_get _ _ 3 _ _ rfl rfl m hm)
  clear hR
  obtain ⟨a3, rfl, rfl, rfl, w3⟩ := open_int Tryd.underlying3 (hval 3 _ v3 rfl rfl) h3
  have hb4 : Rows.uptoBulk d0 + (Rows.uptoBulk d1 + (Rows.uptoBulk d2 + 1)) ≤ 1048576 := by
    have := bulks.bound hk
    simpa [Rows.uptoBulkAll, Rows.uptoBulk] using this
  obtain ⟨cs0, rfl, _⟩ := okWide_struct Tryd.underlying41 (hval 0 _ v0 rfl rfl)
  obtain ⟨f0, e0⟩ := h0
  obtain ⟨nm, ow, po, wh, md, c5, f5, y5, z0, z1, z2, z3, z4, hm, hmd, e5, hx0⟩ := open_bucket e0
  simp only at hx0
  subst hx0
  obtain ⟨ls, al, cl, es0, sp0, hcs5, hes0, hsl0, _, hLI, _⟩ := open_rules e5 (fun m hm => hR0 m (by
    rw [DataW.weights, Tryd.underlying41]
    exact List.mem_append_right _ (List.mem_append_right _ (List.mem_append_right _ (List.mem_append_right _ (List.mem_append_right _ (List.mem_append_left _ hm)))))))
  obtain rfl : c5 = .slice al ls.length cl := by simpa using hcs5
  obtain rfl : cs0 = #[.string nm, .string ow, .string po, .int .i64 wh, .int .i64 md, .slice al ls.length cl] := by cases cs0; simp [Value.cells] at hm; rw [hm]
  have hln : ls.length ≤ 1048576 := by
    have h1 := len_bulk hsl0
    rw [hes0] at h1
    have h2 : Rows.uptoBulk y5.1 ≤ Rows.uptoBulk (.agg [z0, z1, z2, z3, z4, y5.1]) := by
      have := bulks.part_le (show y5.1 ∈ [z0, z1, z2, z3, z4, y5.1] by simp)
      simp only [Rows.uptoBulk]
      omega
    omega
  obtain ⟨a1, n1, k1, rfl⟩ := okWide_slice Tryd.underlying42 (hval 1 _ v1 rfl rfl)
  obtain ⟨f1, e1⟩ := h1
  obtain ⟨rs, ar, cr, es1, sp1, hcs1, hes1, hsl1, hRI, hRO, hkr⟩ := open_rows e1 hR1
  obtain ⟨rfl, rfl, rfl⟩ : a1 = ar ∧ n1 = rs.length ∧ k1 = cr := by simpa [Value.cells] using hcs1
  obtain ⟨a2, n2, k2, rfl⟩ := okWide_slice Tryd.underlying43 (hval 2 _ v2 rfl rfl)
  obtain ⟨f2, e2⟩ := h2
  obtain ⟨us, au, cu, es2, sp2, hcs2, hes2, hsl2, hUI, hUO, hku⟩ := open_uploads e2 hR2
  obtain ⟨rfl, rfl, rfl⟩ : a2 = au ∧ n2 = us.length ∧ k2 = cu := by simpa [Value.cells] using hcs2
  have hkeys : ∀ s ∈ rs.map RowV.key ++ us.map UploadV.key, s.size ≤ 1048576 := by
    intro s hs
    rcases List.mem_append.1 hs with hs | hs
    · obtain ⟨r, hr, rfl⟩ := List.mem_map.1 hs
      obtain ⟨i, hi⟩ := List.getElem?_of_mem hr
      obtain ⟨_, _, _, _, hd⟩ := hkr i r hi
      have h1 := elem_bulk hsl1 hd
      have h2 := Nat.le_trans (string_bulk (H := H) (s := r.key) (l := _) (List.mem_cons_self ..)) h1
      simp only at h2
      omega
    · obtain ⟨u, hu, rfl⟩ := List.mem_map.1 hs
      obtain ⟨i, hi⟩ := List.getElem?_of_mem hu
      obtain ⟨_, _, _, _, _, _, hd⟩ := hku i u hi
      have h1 := elem_bulk hsl2 hd
      have h2 := Nat.le_trans (string_bulk (H := H) (s := u.key) (l := _) (List.mem_cons_of_mem _ (List.mem_cons_of_mem _ (List.mem_cons_self ..)))) h1
      simp only at h2
      omega
  refine (off_walk ⟨nm, ow, po, wh, md⟩ ls (.slice al ls.length cl) rs (.slice a1 rs.length k1) us (.slice a2 us.length k2) a3 W hG hmd (intOK_of_wf w3) hRO hUO hLI hln hRI hUI hkeys).mono fun e W' ⟨he, hb⟩ => ?_
  subst he
  refine ⟨_, rfl, ?_⟩
  simp only [List.append_nil] at hW'
  have hlt : ∀ x ∈ (p0 ++ (p1 ++ (p2 ++ (([] : List MemPlace) ++ ([] : List MemPlace))))), x.block < W.heap.size := fun x hx => hW'.lt x (by simpa using hx)
  exact post_of_below (ds := [_, _, _, _]) (gs := []) (pa := (p0 ++ (p1 ++ (p2 ++ (([] : List MemPlace) ++ ([] : List MemPlace)))))) (pv := []) hW' (fun _ _ _ => trodAll_mk1 (shut_bool Tryd.underlying4 _))
    (fun sp hsp => trodAll_cons_mk (read_on (ps := p0) (by kernel_rfl) (of_decide_eq_true (by kernel_rfl)) h0k hb (fun x hx => hlt x (by simp [hx])) (fun x hx => hsp x (by simp [hx])))
      (trodAll_cons_mk (read_on (ps := p1) (by kernel_rfl) (of_decide_eq_true (by kernel_rfl)) h1k hb (fun x hx => hlt x (by simp [hx])) (fun x hx => hsp x (by simp [hx])))
      (trodAll_cons_mk (read_on (ps := p2) (by kernel_rfl) (of_decide_eq_true (by kernel_rfl)) h2k hb (fun x hx => hlt x (by simp [hx])) (fun x hx => hsp x (by simp [hx])))
      (trodAll_cons_mk (read_on (ps := ([] : List MemPlace)) (by kernel_rfl) (of_decide_eq_true (by kernel_rfl)) h3k hb (fun x hx => by cases hx) (fun x hx => by cases hx))
      (trodAll_mk0)))))
    (fun _ _ => rfl) (by simp) hb (ok_one (by kernel_rfl) rfl (okWide_bool_mk Tryd.underlying4 _))

abbrev wit : Array Value := #[.agg #[.string .empty, .string .empty, .string .empty, .int .i64 0, .int .i64 0, .slice none 0 0], .slice none 0 0, .slice none 0 0, .int .i64 0]
theorem reads (os : Os) {H : Type} (enc : TypeId × Value → H) : DataW.whole enc Tryd.prog ((World.laidAll Tryd.prog os laidAll).forCall (fun _ _ => 0) ⟨#[], wit, []⟩).memory Tryd.f5.params.toList Rows.cycleOffSpec.vars false wit.toList 8 = some ([.agg [.lit (.string []), .lit (.string []), .lit (.string []), .lit (.int .i64 0), .lit (.int .i64 0), .nil], .nil, .nil, .lit (.int .i64 0)], [], []) := by kernel_rfl

set_option maxRecDepth 100000 in
theorem lifted (os : Os) (started : os.Started) (H : Type) (enc : TypeId × Value → H) (F : Stop.Interp) :
    ReturnsInHanded {} Tryd.checked os 5 .any ((Rows.OpenSpec.upto Rows.cycleOffSpec).preRow enc Tryd.prog Tryd.f5 Rows.cycleOffUptoRow.domain false Rows.cycleOffUptoRow.laid) (((Rows.OpenSpec.upto Rows.cycleOffSpec).at F).post enc Tryd.prog Tryd.f5 false true false false) := by
  refine returnsInHanded_of_row (C := Tryd.checked) (s := (Rows.OpenSpec.upto Rows.cycleOffSpec)) own started (by kernel_rfl) Tryd.func5
    (witness_zip (enc := enc) (C := Tryd.checked) (World.laidAll Tryd.prog os laidAll) wit (World.laidAll_os _ _ _) (World.shaped_of_ZipB (by kernel_rfl) (by kernel_rfl)) (by kernel_rfl)
      (OpenSpec.preRow_of_cond 8 (reads os enc) (by kernel_rfl) (fun k hk => by cases hk; kernel_rfl) (by kernel_rfl) (laid_met os _))) ?_
  intro W base args ds gs before hval hW _ hcond hR hL _ _
  exact contract H enc W base args ds gs before hval hW (hcond _ rfl) _ hR hL

theorem said : Rows.CycleOffUptoSaid :=
  OpenClaim.holds_of_cond 5 Tryd.f5 rfl rfl rfl rfl rfl rfl rfl ⟨rfl, rfl, rfl, rfl, rfl⟩ rfl rfl rfl rfl rfl (by kernel_rfl) Tryd.func5 (by kernel_rfl)
    (of_decide_eq_true (by kernel_rfl)) (by unfold Func.isWrapper; first | (rw [if_pos (by decide +kernel)]; kernel_rfl) | (rw [if_neg (by decide +kernel)]; exact ⟨rfl, rfl⟩))
    (fun os started H enc _ F => by rw [OpenClaim.pre_eq_preRow]; exact lifted os started H enc F)

theorem plain (f : FuncId) (fn : Func) (hf : Tryd.pinned.checked.prog.funcNamed "storehouse/storehouselaw22.CycleOff" = some f) (hfn : Tryd.pinned.checked.prog.funcs[f]? = some fn) :
    true = Tryd.pinned.checked.prog.looks [] ∧ ∀ (j : Nat) t, fn.params[j]? = some t → Tryd.pinned.checked.prog.wantsStandIn t = false := by
  obtain rfl : f = 5 := Option.some.inj ((show Tryd.prog.funcNamed "storehouse/storehouselaw22.CycleOff" = some 5 by kernel_rfl).symm.trans hf) |>.symm
  obtain rfl : fn = Tryd.f5 := (Option.some.inj (Tryd.func5.symm.trans hfn)).symm
  refine ⟨by kernel_rfl, fun j t ht => ?_⟩
  rw [Tryd.params5] at ht
  have hm : t ∈ ([41, 42, 43, 3] : List TypeId) := by simpa using Array.mem_of_getElem? ht
  have hall : (([41, 42, 43, 3] : List TypeId).all fun u => !Tryd.prog.wantsStandIn u) = true := by kernel_rfl
  exact (show Tryd.prog.wantsStandIn t = false by simpa using List.all_eq_true.1 hall t hm)

theorem card : Rows.CycleOffUptoCardSaid :=
  Claim7.holds_tied_plain_at .later [] _ _ _ _ said (fun _ h => by cases h) (by kernel_rfl) (fun _ h => by cases h) cycleOffUpto_row_tie rfl ⟨rfl, rfl⟩ (by kernel_rfl) rfl plain (by kernel_rfl)
#print axioms card
end Go.Proofs.YtnnfcbebjbfkoaaDoor.rowCycleOffUpto
