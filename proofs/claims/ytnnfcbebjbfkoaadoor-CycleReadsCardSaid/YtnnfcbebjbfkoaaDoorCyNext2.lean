/-
  Next: the walk.
-/
import Derived.Test.YtnnfcbebjbfkoaaDoorCyNext
import Derived.Deep.CutBlock
import Derived.Deep.DeepCutAuto
namespace Go.Proofs.YtnnfcbebjbfkoaaDoor
open Go.RowKit

structure BucketV where
  name : ByteArray
  owner : ByteArray
  policy : ByteArray
  when_ : Int
  mode : Int

def zeroOp : Array Value := #[.int .i64 0, .int .i64 0, .string ⟨#[]⟩, .string ⟨#[]⟩, .string ⟨#[]⟩, .string ⟨#[]⟩, .int .i64 0, .int .i64 0, .int .i64 0, .int .i64 0, .string ⟨#[]⟩, .string ⟨#[]⟩, .string ⟨#[]⟩, .string ⟨#[]⟩, .string ⟨#[]⟩, .string ⟨#[]⟩, .string ⟨#[]⟩, .int .i64 0, .int .i64 0, .slice none 0 0, .slice none 0 0, .int .i64 0, .int .i64 0]

/-- what Next leaves -/
def NextOut (res : Option Value) (w : World) (e : Ending) (w' : World) : Prop :=
  e = .returned (match res with | some v => .tuple #[v, .bool true] | none => .tuple #[opV 0 0 ⟨#[]⟩ ⟨#[]⟩ ⟨#[]⟩ 0, .bool false]) ∧ Below w.heap.size w w'

/-- what stays through all of Next: the bucket's box, the result's -/
structure NxtInv (w wr : World) (bk : BucketV) (al : Option Addr) (n cl : Nat) : Prop where
  below : Below w.heap.size w wr
  box : wr.heap[w.heap.size]? = some (.cells #[.string bk.name, .string bk.owner, .string bk.policy, .int .i64 bk.when_, .int .i64 bk.mode, .slice al n cl] 41 (0, 0))
  res : wr.heap[w.heap.size + 1]? = some (.cells zeroOp 47 (0, 0))

theorem NxtInv.later {w wr wr' : World} {bk : BucketV} {al : Option Addr} {n cl : Nat} (h : NxtInv w wr bk al n cl) (hb : Below wr.heap.size wr wr') : NxtInv w wr' bk al n cl := by
  have h1 := (Array.getElem?_eq_some_iff.1 h.res).1
  exact ⟨h.below.trans (hb.mono (by omega)), by rw [hb.block _ (by omega)]; exact h.box, by rw [hb.block _ h1]; exact h.res⟩

theorem info_ver : ∃ i, Tryd.prog.info? 56 = some i ∧ i.zero = some (.agg #[.int .i64 0, .bool false, .bool false, .string ⟨#[]⟩, .string ⟨#[]⟩, .int .i64 0, .int .i64 0, .slice none 0 0]) ∧ i.size = 8 ∧ i.bytes = 88 :=
  info_parts (show (Tryd.prog.info? 56).map (fun i => (i.zero, i.size, i.bytes)) = some (some (.agg #[.int .i64 0, .bool false, .bool false, .string ⟨#[]⟩, .string ⟨#[]⟩, .int .i64 0, .int .i64 0, .slice none 0 0]), 8, 88) by kernel_rfl)

set_option maxHeartbeats 4000000 in
set_option maxRecDepth 100000 in
theorem next_walk (bk : BucketV) (ls : List RuleW) (rv : Value) (rows : List RowV) (rowv : Value) (ups : List UploadV) (upv : Value) (now : Int) (w : World)
    (hmode : IntOK bk.mode) (hnow : IntOK now) (hrows : ∀ r ∈ rows, r.ver.OK) (hups : ∀ u ∈ ups, IntOK u.when_) (htab : w.cell? ⟨5, 15, none⟩ = some (.int .u8 4))
    (hL : RulesIn w rv (ls.map Subtype.val)) (hR : RowsIn w rowv rows) (hU : UploadsIn w upv ups) :
    Calls Tryd.prog 13 #[.agg #[.string bk.name, .string bk.owner, .string bk.policy, .int .i64 bk.when_, .int .i64 bk.mode, rv], rowv, upv, .int .i64 now] w
      (NextOut (nextOf (ls.map Subtype.val) bk.mode bk.name rows ups now) w) := by
  obtain ⟨vers, HVERS⟩ : ∃ vers, Hid (vers = rows.map RowV.ver) := ⟨_, rfl⟩
  obtain ⟨iV, hVi, hVz, hVs, hVb⟩ := info_ver
  obtain ⟨rs, HRS⟩ : ∃ rs, Hid (ls.map Subtype.val = rs) := ⟨_, rfl⟩
  obtain ⟨al, cl, rfl⟩ : ∃ a c, rv = .slice a ls.length c := by obtain ⟨a, c, h, _⟩ := hL; rw [List.length_map] at h; exact ⟨a, c, h⟩
  obtain ⟨ar, cr, rfl, hrc, hrn, hrcells⟩ := hR
  obtain ⟨au, cu, rfl⟩ : ∃ a c, upv = .slice a ups.length c := by obtain ⟨a, c, h, _⟩ := hU; exact ⟨a, c, h⟩
  have hun : ups.length ≤ 2199023255552 := by obtain ⟨_, _, _, h, _⟩ := hU; exact h
  obtain ⟨res, hres⟩ : ∃ res, Hid (res = nextOf (ls.map Subtype.val) bk.mode bk.name rows ups now) := ⟨_, rfl⟩
  rw [← hres.out]
  have HRC := Lib.hid hrcells
  have HL := Lib.hid hL
  have HU := Lib.hid hU
  have HROWS := Lib.hid hrows
  have HUPS := Lib.hid hups
  have HT := Lib.hid htab
  have HN := Lib.hid hnow
  have HM := Lib.hid hmode
  clear hrcells hL hU hrows hups htab hnow hmode
  go_enter Tryd.func13, Tryd.ntmps13
  go_wp2
  go_loopg [1] rows.length (fun gg s1 wr => ∃ (p m k : Nat) (ad : Option Addr), s1 = .slice ad m k ∧ m + p = rows.length ∧ k + p = cr ∧ m ≤ gg ∧
    Hid (0 < m → ∀ b off, ar = some ⟨b, off, none⟩ → ad = some ⟨b, off + p * 18, none⟩) ∧
    Hid (∃ f, m ≤ f ∧ nextRows rs bk.mode bk.name now rows.length rows = nextRows rs bk.mode bk.name now f (rows.drop p)) ∧ Hid (NxtInv w wr bk al ls.length cl))
  case atStart =>
    refine ⟨0, rows.length, cr, ar, rfl, rfl, rfl, by omega, (show Hid _ from fun _ b off h => by simpa using h), (show Hid _ from ⟨rows.length, by omega, by simp⟩), (show Hid _ from ?_)⟩
    exact ⟨below_alloc (below_alloc (Below.refl _ _) (Nat.le_refl _) _) (Nat.le_refl _) _, by rw [Below.heap_alloc _ _ _ (by simp), heap_alloc_new], by rw [show w.heap.size + 1 = (w.alloc _).heap.size from by simp]; exact heap_alloc_new _ _⟩
  case round =>
    obtain ⟨p, m, k, ad, rfl, hmp, hkp, hgg, HA, HF, HI⟩ := hrel
    by_cases hlt : 0 < m
    · have hltp : p < rows.length := by omega
      obtain ⟨b, off, har, hcells⟩ := HRC.out (by omega)
      obtain rfl := HA.out hlt b off har
      obtain ⟨r, HR⟩ : ∃ r, Hid (rows[p]? = some r) := ⟨_, List.getElem?_eq_getElem hltp⟩
      have hk := (row_cells (hcells p r HR.out)).1
      have hk' : wr.cell? ⟨b, off + p * 18, none⟩ = some (.string r.key) := by
        rw [HI.out.below.cell (World.block_lt_of_cell? w _ hk)]; exact hk
      have HC := Lib.hid hcells
      clear hcells hk
      go_upto_block 2 with (fail)
      obtain ⟨wo, rfl⟩ : ∃ wo : World, wo = wr := ⟨_, rfl⟩
      go_cut [1, 11] (fun s1 s11 w1 => ∃ (q m2 k2 : Nat) (ad : Option Addr), s1 = .slice ad m2 k2 ∧ p < q ∧ m2 + q = rows.length ∧ k2 + q = cr ∧ Hid (0 < m2 → ad = some ⟨b, off + q * 18, none⟩) ∧
        Hid (sameKey r.key (rows.drop p) = (rows.drop p).take (q - p) ∧ behindKey r.key (rows.drop p) = rows.drop q) ∧
        Hid (w1.ownsRow wo.heap.size 56 8 s11 (q - p) (vflat ((vers.drop p).take (q - p)))) ∧ Hid (Below wo.heap.size wo w1))
      case first =>
        go_wp2
        go_loopg [1, 11] rows.length (fun gg s1 s11 wr => ∃ (q m2 k2 : Nat) (ad : Option Addr), s1 = .slice ad m2 k2 ∧ p ≤ q ∧ m2 + q = rows.length ∧ k2 + q = cr ∧ m2 ≤ gg ∧
          Hid (0 < m2 → ad = some ⟨b, off + q * 18, none⟩) ∧ Hid (∀ j r', p ≤ j → j < q → rows[j]? = some r' → (r'.key.toList == r.key.toList) = true) ∧
          Hid (wr.ownsRow wo.heap.size 56 8 s11 (q - p) (vflat ((vers.drop p).take (q - p)))) ∧ Hid (Below wo.heap.size wo wr))
        case atStart => exact ⟨p, m, k, some ⟨b, off + p * 18, none⟩, rfl, Nat.le_refl _, hmp, hkp, by omega, (show Hid _ from fun _ => rfl), (show Hid _ from fun j r' h1 h2 => by omega), (show Hid _ from by rw [Nat.sub_self]; exact World.ownsRow_nil _ _ _ _), (show Hid _ from Below.refl _ _)⟩
        case round =>
          obtain ⟨q, m2, k2, ad, rfl, hpq, hmq, hkq, hgg2, HA2, HK, HO, HB⟩ := hrel
          by_cases hlt2 : 0 < m2
          · obtain rfl := HA2.out hlt2
            obtain ⟨r2, HR2⟩ : ∃ r, Hid (rows[q]? = some r) := ⟨_, List.getElem?_eq_getElem (by omega)⟩
            have hwi := HI.out.below.trans (HB.out.mono HI.out.below.size)
            have hrc2 := row_cells (w := wr) (b := b) (off := off + q * 18) (r := r2) (fun j u hj => by
              have := HC.out q r2 HR2.out j u hj
              rw [hwi.cell (World.block_lt_of_cell? w _ this)]; exact this)
            obtain ⟨hk2, hv2⟩ := hrc2
            obtain ⟨e0, e1, e2, e3, e4, e5, e6, e7⟩ := ver_cells hv2
            clear hv2
            have hkpos : 1 ≤ k2 := by omega
            cases hke : (r2.key.toList == r.key.toList) with
            | true =>
              go_wp2_with (at_builtin; refine wpList_append_own _ rfl _ _ 35 rfl wo.heap.size 56 iV _ 8 88 Tryd.underlying35 hVi hVz hVs hVb rfl (by decide) _ _ _ rfl (HO.out.alloc _) ⟨wr.heap.size, 0, none⟩ 1 1 [.int .i64 r2.ver.seq, .bool r2.ver.null, .bool r2.ver.marker, .string r2.ver.etag, .string r2.ver.typ, .int .i64 r2.ver.size, .int .i64 r2.ver.when_, .slice r2.ver.bA r2.ver.bN r2.ver.bC] rfl rfl ?c1 ?c2 ?c3 ?c4 ?c5 ?_)
              case c2 => simp [Value.oneCell']
              case c3 => simp only [maxLen]; omega
              case c4 => omega
              case c5 => have := HB.out.size; omega
              intro v' w7 hown' hgrow _
              have O7 : Hid (w7.ownsRow wo.heap.size 56 8 v' (q + 1 - p) (vflat ((vers.drop p).take (q + 1 - p)))) := by
                show World.ownsRow _ _ _ _ _ _ _
                have e : (vers.drop p).take (q + 1 - p) = (vers.drop p).take (q - p) ++ [r2.ver] := by
                  rw [show q + 1 - p = (q - p) + 1 from by omega, List.take_add_one, List.getElem?_drop, show p + (q - p) = q from by omega, HVERS.out, List.getElem?_map, HR2.out]; rfl
                rw [e, vflat_snoc, show q + 1 - p = q - p + 1 from by omega]
                exact hown'
              have B7 : Hid (Below wo.heap.size wo w7) := by
                have hlt' := (HO.out.alloc (.cells r2.ver.cells.toArray 56)).lt
                exact (below_alloc HB.out (Nat.le_refl _) _).grown hgrow (by simp; have := HB.out.size; omega) (fun k hk => (hlt' k hk).1)
              have HK' : Hid (∀ j r', p ≤ j → j < q + 1 → rows[j]? = some r' → (r'.key.toList == r.key.toList) = true) := by
                intro j r' h1 h2 h3
                by_cases hjq : j = q
                · subst hjq
                  rw [HR2.out] at h3
                  cases h3; exact hke
                · exact HK.out j r' h1 (by omega) h3
              clear hown' hgrow e0 e1 e2 e3 e4 e5 e6 e7 hk2 hke
              by_cases hcap : k2 = 1
              · have hm21 : m2 = 1 := by omega
                go_wp2
                go_roundg (m2 - 1)
                case measure => omega
                case rel => exact ⟨q + 1, 0, 0, _, rfl, by omega, by omega, by omega, by omega, (show Hid _ from fun h => by omega), HK', O7, B7⟩
              · go_wp2
                go_roundg (m2 - 1)
                case measure => omega
                case rel => exact ⟨q + 1, m2 - 1, k2 - 1, _, rfl, by omega, by omega, by omega, Nat.le_refl _, (show Hid _ from fun _ => by congr 2; omega), HK', O7, B7⟩
            | false =>
              have hqp : p < q := by
                rcases Nat.lt_or_ge p q with h | h
                · exact h
                · have : q = p := by omega
                  subst this
                  have := HR2.out.symm.trans HR.out
                  cases this
                  simp at hke
              have HS := same_take r.key (rows.drop p) (q - p) (by simp; omega) (fun j r' h1 h2 => HK.out (p + j) r' (by omega) (by omega) (by rw [List.getElem?_drop] at h2; exact h2))
                (fun r' h2 => by
                  rw [List.getElem?_drop, show p + (q - p) = q from by omega, HR2.out] at h2
                  cases h2; exact hke)
              rw [List.drop_drop, show p + (q - p) = q from by omega] at HS
              have HS' := Lib.hid HS
              clear HS
              go_wp2
              go_meet
              case rel => exact ⟨q, m2, k2, _, rfl, hqp, hmq, hkq, (show Hid _ from fun _ => rfl), HS', HO, HB⟩
          · have hm0 : m2 = 0 := by omega
            have HS := same_take r.key (rows.drop p) (q - p) (by simp; omega) (fun j r' h1 h2 => HK.out (p + j) r' (by omega) (by omega) (by rw [List.getElem?_drop] at h2; exact h2))
                (fun r' h2 => by
                  have := (List.getElem?_eq_some_iff.1 h2).1
                  simp at this; omega)
            rw [List.drop_drop, show p + (q - p) = q from by omega] at HS
            have HS' := Lib.hid HS
            clear HS
            have hm0' : ¬ 0 < m2 := hlt2
            go_wp2
            go_meet
            case rel => exact ⟨q, m2, k2, _, rfl, by omega, hmq, hkq, HA2, HS', HO, HB⟩
      case rest =>
        obtain ⟨q, m2, k2, ad2, rfl, hpq, hmq, hkq, HA2, HS, HO, HB⟩ := hcut
        have hIc : Hid (NxtInv w wc bk al ls.length cl) := HI.out.later HB.out
        have hvl : ((vers.drop p).take (q - p)).length = q - p := by
          rw [List.length_take, List.length_drop, HVERS.out, List.length_map]; omega
        obtain ⟨vs, HVS⟩ : ∃ vs, Hid (vs = (vers.drop p).take (q - p)) := ⟨_, rfl⟩
        have hvs : VersionsIn wc u11 vs := VersionsIn.of_own (base := wo.heap.size) (by rw [HVS.out, hvl]; exact HO.out) (by rw [HVS.out, hvl]; omega)
        have hvok : ∀ v ∈ vs, v.OK := by
          intro v hv
          rw [HVS.out, HVERS.out] at hv
          obtain ⟨r', hr', rfl⟩ := List.mem_map.1 (List.mem_of_mem_drop (List.mem_of_mem_take hv))
          exact HROWS.out r' hr'
        obtain ⟨ax, cx, rfl⟩ : ∃ a c, u11 = .slice a vs.length c := by obtain ⟨a, c, h, _⟩ := hvs; exact ⟨a, c, h⟩
        have HVI := Lib.hid hvs
        have HVO := Lib.hid hvok
        clear hvs hvok hvl HC
        have hb0 := cell_of_heap (x := 0) hIc.out.box
        have hb4 := cell_of_heap (x := 4) hIc.out.box
        have hb5 := cell_of_heap (x := 5) hIc.out.box
        simp only [List.getElem?_toArray, List.getElem?_cons_zero, List.getElem?_cons_succ] at hb0 hb4 hb5
        have HKV : Hid ((sameKey r.key (rows.drop p)).map RowV.ver = vs) := by
          show _ = _
          rw [HS.out.1, HVS.out, HVERS.out, List.map_take, List.map_drop]
        have HSTEP : Hid (∃ f, m2 ≤ f ∧ nextRows rs bk.mode bk.name now rows.length rows = match nextKey rs bk.mode bk.name now r.key vs with | some v => some v | none => nextRows rs bk.mode bk.name now f (rows.drop q)) := by
          obtain ⟨f, hf, he⟩ := HF.out
          obtain ⟨f', rfl⟩ : ∃ f', f = f' + 1 := ⟨f - 1, by omega⟩
          refine ⟨f', by omega, ?_⟩
          rw [he, nextRows_cons (r := r) (by rw [List.getElem?_drop]; exact HR.out), HKV.out, HS.out.2]
          cases nextKey rs bk.mode bk.name now r.key vs <;> rfl
        go_wp2_with fail
        refine (due_walk ls bk.mode r.key vs now _ _ _ HM.out HN.out HVO.out (HL.out.later hIc.out.below) HVI.out).mono ?_
        rintro e w8 ⟨v8, rfl, hd8⟩
        rw [HRS.out] at hd8 ⊢
        have HMEM := Lib.hid (due_mem (rs.filter fun r' => fitsB r' r.key) bk.mode vs now vs.length)
        have HD : Hid (due rs bk.mode r.key vs now = dueTo (rs.filter fun r' => fitsB r' r.key) bk.mode vs now vs.length) := rfl
        obtain ⟨dd, HDD⟩ : ∃ dd, Hid (due rs bk.mode r.key vs now = dd) := ⟨_, rfl⟩
        rw [HDD.out] at hd8 ⊢
        obtain ⟨o, mk⟩ := dd
        simp only at hd8 ⊢
        obtain ⟨a8, c8, rfl⟩ : ∃ a c, v8 = .slice a o.length c := by
          rcases hd8.own.2 with ⟨h1, h2⟩ | ⟨g, cap, cur, h1, _⟩
          · exact ⟨none, 0, by rw [h1, h2]⟩
          · exact ⟨_, _, h1⟩
        have hI8 : Hid (NxtInv w w8 bk al ls.length cl) := hIc.out.later hd8.below
        have HD8 := Lib.hid hd8
        have HB8 := Lib.hid hd8.below
        clear hd8 hb0 hb4 hb5
        have hb0 := cell_of_heap (x := 0) hI8.out.box
        simp only [List.getElem?_toArray, List.getElem?_cons_zero] at hb0
        have hs0 : w.heap.size + 2 ≤ w8.heap.size := by have := (Array.getElem?_eq_some_iff.1 hI8.out.res).1; omega
        have hs1 : w.heap.size < w8.heap.size := by omega
        have hs2 : w.heap.size + 1 < w8.heap.size := by omega
        have hres8 := hI8.out.res
        go_upto_region 9 with (refine wpList_store_row (by rfl) 47 _ _ (by rfl) (w8.heap.size + 1) _ (by rfl) (by rfl) 47 _ (by exact heap_at1 _ _ _) (by kernel_rfl) (by kernel_rfl) (by kernel_rfl) ?_; rw [setRow_alloc1])
        cases o with
        | nil =>
          cases mk with
          | false =>
            have HK2 : Hid (nextKey rs bk.mode bk.name now r.key vs = none) := by
              show _ = _
              unfold nextKey
              rw [HDD.out]; rfl
            clear hres8
            go_wp2
            go_roundg m2
            case measure => omega
            case rel =>
              refine ⟨q, m2, k2, ad2, rfl, hmq, hkq, Nat.le_refl _, (show Hid _ from fun h b' o' hb' => ?_), (show Hid _ from ?_), (show Hid _ from ?_)⟩
              · rw [HA2.out h]
                have := har.symm.trans hb'
                cases this; rfl
              · obtain ⟨f, hf, he⟩ := HSTEP.out
                exact ⟨f, hf, by rw [he, HK2.out]⟩
              · exact hI8.out.later (below_alloc (below_alloc (Below.refl _ _) (Nat.le_refl _) _) (Nat.le_refl _) _)
          | true =>
            have HK2 : Hid (res = some (opV 19 now bk.name r.key ⟨#[]⟩ 0)) := by
              show _ = _
              obtain ⟨f, hf, he⟩ := HSTEP.out
              rw [hres.out, HRS.out]
              unfold nextOf
              rw [he]
              unfold nextKey
              rw [HDD.out]; rfl
            have HR8 := Lib.hid hres8
            clear hres8
            go_wp2_with (first
              | (refine wpList_store_row (by rfl) 47 _ _ (by rfl) (w8.heap.size + 1) _ (by rfl) (by rfl) 47 _ (by exact heap_at1 _ _ _) (by kernel_rfl) (by kernel_rfl) (by kernel_rfl) ?_; rw [setRow_alloc1])
              | (refine wpList_load_row (by rfl) 47 _ (by rfl) (w8.heap.size + 1) (by rfl) 47 _ (0, 0) _ (by exact heap_at1 _ _ _) Tryd.underlying47 rfl (by kernel_rfl) ?_)
              | (refine wpList_store_row (by rfl) 47 _ _ (by rfl) (w.heap.size + 1) _ (by rfl) (by rfl) 47 zeroOp ?h16 (by kernel_rfl) (by kernel_rfl) (by kernel_rfl) ?_))
            case h16 => rw [Below.heap_alloc _ _ _ (by simp; omega), Below.heap_alloc _ _ _ (by omega)]; exact HR8.out
            refine bodyPost_ret (results_cell_tmp rfl _ _ (w.heap.size + 1) 47 _ _ rfl (setRow_heap _ _ zeroOp _ _ _ ?h17) Tryd.underlying47 rfl (by kernel_rfl)) rfl ?_
            case h17 => rw [Below.heap_alloc _ _ _ (by simp; omega), Below.heap_alloc _ _ _ (by omega)]; exact HR8.out
            show NextOut res w _ _
            rw [HK2.out]
            refine ⟨?_, ?_⟩
            · rfl
            · exact below_two_row _ _ _ _ _ _ _ hI8.out.below (by omega) (Nat.le_refl _)
        | cons s o' =>
          have hsm : s ∈ (dueTo (rs.filter fun r' => fitsB r' r.key) bk.mode vs now vs.length).1 := by
            rw [← HD.out, HDD.out]; exact List.mem_cons_self
          obtain ⟨kx, v, hkv, hidx, hfind⟩ := find_idx s vs 0 (HMEM.out s hsm)
          have HK2 : Hid (res = some (opV 19 now bk.name r.key (verName v) 0)) := by
            show _ = _
            obtain ⟨f, hf, he⟩ := HSTEP.out
            rw [hres.out, HRS.out]
            unfold nextOf
            rw [he]
            unfold nextKey
            rw [HDD.out]
            simp only [hfind, Option.map_some]
          obtain ⟨g, c9, ha8, hc9, hcell⟩ : ∃ g c9, a8 = some ⟨g, 0, none⟩ ∧ c8 = c9 ∧ w8.cell? ⟨g, 0, none⟩ = some (.int .i64 s) := by
            rcases HD8.out.own.2 with ⟨h1, h2⟩ | ⟨g, cap, cur, h1, _, hg, hn, hm, hcs, ht⟩
            · simp at h2
            · simp only [Value.slice.injEq] at h1
              refine ⟨g, cap, h1.1, h1.2.2, ?_⟩
              rw [cell_of_heap hg]
              have := congrArg (fun l => l[0]?) ht
              simpa using this
          subst ha8
          subst hc9
          have HC0 := Lib.hid hcell
          have HKV2 := Lib.hid hkv
          have HIDX : Hid (Lib.idxBy (fun _ (y : VersionV) => y.seq == s) vs default = ((kx : Nat) : Int)) := by
            show _ = _
            unfold Lib.idxBy
            rw [hidx]; simp
          have hkl : kx < vs.length := (List.getElem?_eq_some_iff.1 hkv).1
          have HR8 := Lib.hid hres8
          have hgl : g < w8.heap.size := World.block_lt_of_cell? w8 _ hcell
          have HVI8 : Hid (VersionsIn w8 (.slice ax vs.length cx) vs) := HVI.out.later HB8.out
          obtain ⟨bv, ov, hax, HVC⟩ : ∃ bv ov, ax = some ⟨bv, ov, none⟩ ∧ Hid (∀ i r, vs[i]? = some r → ∀ j u, r.cells[j]? = some u → w8.cell? ⟨bv, ov + i * 8 + j, none⟩ = some u) := by
            obtain ⟨a', c', h1, _, h2⟩ := HVI8.out
            obtain ⟨b', o', h3, h4⟩ := h2 (by omega)
            simp only [Value.slice.injEq] at h1
            exact ⟨b', o', h1.1.trans h3, h4⟩
          subst hax
          have hbv : bv < w8.heap.size := World.block_lt_of_cell? w8 _ (ver_cells (HVC.out kx v hkv)).1
          clear hsm hidx hfind hkv hcell hres8
          have HT8 : Hid (w8.cell? ⟨5, 15, none⟩ = some (.int .u8 4)) := cell_later hI8.out.below HT.out
          have HSeq : Hid (IntOK v.seq) := (HVO.out v (List.mem_of_getElem? HKV2.out)).1
          go_wp2_with fail
          refine (Tryd.slices_IndexFunc_f30 8 isAgg_ver sizeOf_ver VersionV.cells (fun _ => rfl) (fun y => y.seq == s) _ _ (fun _ _ => by kernel_rfl) bv ov vs.length cx vs _ (fun W x hW => ?hp) (Nat.le_refl _) ?hn ?hb ?hc).mono ?_
          case hp =>
            refine (next1_any x s w8.heap.size g 0 (o'.length + 1) c8 W (by omega) (cell_later hW (cell_past _ (cell_new _ _ _ _ _ _ rfl rfl))) (cell_later hW (cell_past _ (cell_past _ HC0.out)))).mono ?_
            rintro e w' ⟨he, hb'⟩
            exact ⟨he, hW.trans (hb'.mono hW.size)⟩
          case hn => have := HVI8.out; obtain ⟨_, _, _, h, _⟩ := this; omega
          case hb => simp; omega
          case hc =>
            intro j hj i' u hu
            exact cell_past _ (cell_past _ (HVC.out j vs[j]! (by rw [getElem!_pos vs j hj, List.getElem?_eq_getElem hj]) i' u hu))
          rw [List.take_of_length_le (Nat.le_refl _), HIDX.out]
          rintro e w9 ⟨rfl, hb9⟩
          have s9 : w8.heap.size + 2 ≤ w9.heap.size := by have := hb9.size; simp at this; omega
          have s9a : w8.heap.size + 1 < w9.heap.size := by omega
          have R9 : Hid (w9.heap[w8.heap.size + 1]? = some (.cells #[.int .i64 19, .int .i64 now, .string ⟨#[]⟩, .string bk.name, .string r.key, .string ⟨#[]⟩, .int .i64 0, .int .i64 0, .int .i64 0, .int .i64 0, .string ⟨#[]⟩, .string ⟨#[]⟩, .string ⟨#[]⟩, .string ⟨#[]⟩, .string ⟨#[]⟩, .string ⟨#[]⟩, .string ⟨#[]⟩, .int .i64 0, .int .i64 0, .slice none 0 0, .slice none 0 0, .int .i64 0, .int .i64 0] 47 (0, 0))) := by
            show _ = _
            rw [hb9.block _ (by simp)]; exact heap_at1 _ _ _
          have Z9 : Hid (w9.heap[w.heap.size + 1]? = some (.cells zeroOp 47 (0, 0))) := by
            show _ = _
            rw [hb9.block _ (by simp; omega), Below.heap_alloc _ _ _ (by simp; omega), Below.heap_alloc _ _ _ (by omega)]; exact HR8.out
          have T9 : Hid (w9.cell? ⟨5, 15, none⟩ = some (.int .u8 4)) := cell_later hb9 (cell_past _ (cell_past _ HT8.out))
          have B9 : Hid (Below w.heap.size w w9) := (below_alloc (below_alloc hI8.out.below (Nat.le_refl _) _) (Nat.le_refl _) _).trans (hb9.mono (by simp; omega))
          obtain ⟨e0, e1, e2, e3, e4, e5, e6, e7⟩ := ver_cells (fun j u hj => cell_later hb9 (cell_past _ (cell_past _ (HVC.out kx v HKV2.out j u hj))))
          have hkz : (kx : Int) < (vs.length : Int) := by omega
          have hbv9 : bv < w9.heap.size := by omega
          clear hb9
          go_wp2_with fail
          refine (number_any v.seq HSeq.out _ (cell_past _ T9.out)).mono ?_
          rintro e w10 ⟨rfl, hb10⟩
          have s10 : w9.heap.size + 1 ≤ w10.heap.size := by have := hb10.size; simp at this; omega
          have s10a : w8.heap.size + 1 < w10.heap.size := by omega
          have R10 : Hid (w10.heap[w8.heap.size + 1]? = some (.cells #[.int .i64 19, .int .i64 now, .string ⟨#[]⟩, .string bk.name, .string r.key, .string ⟨#[]⟩, .int .i64 0, .int .i64 0, .int .i64 0, .int .i64 0, .string ⟨#[]⟩, .string ⟨#[]⟩, .string ⟨#[]⟩, .string ⟨#[]⟩, .string ⟨#[]⟩, .string ⟨#[]⟩, .string ⟨#[]⟩, .int .i64 0, .int .i64 0, .slice none 0 0, .slice none 0 0, .int .i64 0, .int .i64 0] 47 (0, 0))) := by
            show _ = _
            rw [hb10.block _ (by simp; omega), Below.heap_alloc _ _ _ (by omega)]; exact R9.out
          have Z10 : Hid (w10.heap[w.heap.size + 1]? = some (.cells zeroOp 47 (0, 0))) := by
            show _ = _
            rw [hb10.block _ (by simp; omega), Below.heap_alloc _ _ _ (by omega)]; exact Z9.out
          have B10 : Hid (Below w.heap.size w w10) := (below_alloc B9.out (Nat.le_refl _) _).trans (hb10.mono (by simp; omega))
          have n10 : w10.cell? ⟨w9.heap.size, 1, none⟩ = some (.bool v.null) := cell_later hb10 (cell_new _ _ _ _ _ _ rfl rfl)
          have o10 : w10.cell? ⟨w8.heap.size + 1, 5, none⟩ = some (.string ⟨#[]⟩) := cell_of_heap R10.out
          have f10 : w10.frozen? ⟨w8.heap.size + 1, 5, none⟩ = false := free_of_heap R10.out
          have ne1 : w9.heap.size ≠ w8.heap.size + 1 := by omega
          clear hb10 e0 e1 e2 e3 e4 e5 e6 e7
          cases hnull : v.null with
          | false =>
            rw [hnull] at n10
            have HK3 : Hid (res = some (opV 19 now bk.name r.key ⟨(numText v.seq).toArray⟩ 0)) := by
              show _ = _
              rw [HK2.out]; unfold verName; rw [hnull]; rfl
            clear hnull
            go_wp2_with (first
              | (refine wpList_load_row (by rfl) 47 _ (by rfl) (w8.heap.size + 1) (by rfl) 47 _ (0, 0) _ (by exact heap_set R10.out _) Tryd.underlying47 rfl (by kernel_rfl) ?_)
              | (refine wpList_store_row (by rfl) 47 _ _ (by rfl) (w.heap.size + 1) _ (by rfl) (by rfl) 47 zeroOp ?h16 (by kernel_rfl) (by kernel_rfl) (by kernel_rfl) ?_))
            case h16 => rw [heap_setCell_other _ _ _ _ (by simp; omega)]; exact Z10.out
            refine bodyPost_ret (results_cell_tmp rfl _ _ (w.heap.size + 1) 47 _ _ rfl (setRow_heap _ _ zeroOp _ _ _ ?h17) Tryd.underlying47 rfl (by kernel_rfl)) rfl ?_
            case h17 => rw [heap_setCell_other _ _ _ _ (by simp; omega)]; exact Z10.out
            show NextOut res w _ _
            rw [HK3.out]
            refine ⟨?_, ?_⟩
            · rfl
            · exact below_cell_row _ _ _ _ _ _ _ B10.out (by simp; omega) (by omega)
          | true =>
            rw [hnull] at n10
            have HK3 : Hid (res = some (opV 19 now bk.name r.key ⟨#[110, 117, 108, 108]⟩ 0)) := by
              show _ = _
              rw [HK2.out]; unfold verName; rw [hnull]; rfl
            clear hnull
            go_wp2_with (first
              | (refine wpList_load_row (by rfl) 47 _ (by rfl) (w8.heap.size + 1) (by rfl) 47 _ (0, 0) _ (by exact heap_set (heap_set R10.out _) _) Tryd.underlying47 rfl (by kernel_rfl) ?_)
              | (refine wpList_store_row (by rfl) 47 _ _ (by rfl) (w.heap.size + 1) _ (by rfl) (by rfl) 47 zeroOp ?h16 (by kernel_rfl) (by kernel_rfl) (by kernel_rfl) ?_))
            case h16 => rw [heap_setCell_other _ _ _ _ (by simp; omega), heap_setCell_other _ _ _ _ (by simp; omega)]; exact Z10.out
            refine bodyPost_ret (results_cell_tmp rfl _ _ (w.heap.size + 1) 47 _ _ rfl (setRow_heap _ _ zeroOp _ _ _ ?h17) Tryd.underlying47 rfl (by kernel_rfl)) rfl ?_
            case h17 => rw [heap_setCell_other _ _ _ _ (by simp; omega), heap_setCell_other _ _ _ _ (by simp; omega)]; exact Z10.out
            show NextOut res w _ _
            rw [HK3.out]
            refine ⟨?_, ?_⟩
            · rfl
            · exact below_cell2_row _ _ _ _ _ _ _ _ _ B10.out (by simp; omega) (by simp; omega) (by omega)
    · have hm0 : m = 0 := by omega
      have HRES : Hid (res = (ups.find? fun u => staleB rs u now).map fun u => opV 24 now u.bucket u.key ⟨#[]⟩ u.seq) := by
        show _ = _
        obtain ⟨f, hf, he⟩ := HF.out
        have hd : rows.drop p = [] := by rw [List.drop_eq_nil_iff]; omega
        rw [hres.out, HRS.out]
        unfold nextOf
        rw [he, hd]
        cases f <;> rfl
      have hltm : ¬ 0 < m := hlt
      clear hm0
      go_wp2
      obtain ⟨wo, rfl⟩ : ∃ wo : World, wo = wr := ⟨_, rfl⟩
      go_loopg [82] ups.length (fun gg s82 wr => ∃ i : Nat, i ≤ ups.length ∧ s82 = .int .i64 i ∧ ups.length - i ≤ gg ∧ Hid (∀ j u, j < i → ups[j]? = some u → staleB rs u now = false) ∧ Hid (NxtInv w wr bk al ls.length cl))
      case atStart => exact ⟨0, Nat.zero_le _, rfl, by omega, (show Hid _ from fun j u h => by omega), HI⟩
      case round =>
        obtain ⟨i, hin, rfl, hgg2, HST, HI2⟩ := hrel
        by_cases hlt2 : i < ups.length
        · have hltz : (i : Int) < (ups.length : Int) := by omega
          obtain ⟨u, HUi⟩ : ∃ u, Hid (ups[i]? = some u) := ⟨_, List.getElem?_eq_getElem hlt2⟩
          have hU2 := HU.out.later HI2.out.below
          obtain ⟨bu, ou, hau, hcu⟩ : ∃ bu ou, au = some ⟨bu, ou, none⟩ ∧ ∀ j x, u.cells[j]? = some x → wr.cell? ⟨bu, ou + i * 7 + j, none⟩ = some x := by
            obtain ⟨a', c', h1, _, h2⟩ := hU2
            obtain ⟨b', o', h3, h4⟩ := h2 (by omega)
            simp only [Value.slice.injEq] at h1
            exact ⟨b', o', h1.1.trans h3, h4 i u HUi.out⟩
          subst hau
          obtain ⟨e0, e1, e2, e3, e4, e5, e6⟩ := up_cells hcu
          have hbu : bu < wr.heap.size := World.block_lt_of_cell? wr _ e0
          have hb5 := cell_of_heap (x := 5) HI2.out.box
          simp only [List.getElem?_toArray, List.getElem?_cons_zero, List.getElem?_cons_succ] at hb5
          have hs2 := (Array.getElem?_eq_some_iff.1 HI2.out.res).1
          have hs1 : w.heap.size < wr.heap.size := by omega
          clear hU2 hcu
          go_wp2_with fail
          refine (stale_any ls _ u now _ HN.out (HUPS.out u (List.mem_of_getElem? HUi.out)) (HL.out.later (below_alloc HI2.out.below (Nat.le_refl _) _))).mono ?_
          rw [HRS.out]
          rintro e w3 ⟨rfl, hb3⟩
          have s3 : wr.heap.size + 1 ≤ w3.heap.size := by have := hb3.size; simp at this; omega
          have I3 : Hid (NxtInv w w3 bk al ls.length cl) := (HI2.out.later (below_alloc (Below.refl _ _) (Nat.le_refl _) _)).later hb3
          have q0 : w3.cell? ⟨wr.heap.size, 0, none⟩ = some (.int .i64 u.seq) := cell_later hb3 (cell_new _ _ _ _ _ _ rfl rfl)
          have q1 : w3.cell? ⟨wr.heap.size, 1, none⟩ = some (.string u.bucket) := cell_later hb3 (cell_new _ _ _ _ _ _ rfl rfl)
          have q2 : w3.cell? ⟨wr.heap.size, 2, none⟩ = some (.string u.key) := cell_later hb3 (cell_new _ _ _ _ _ _ rfl rfl)
          clear hb3 e0 e1 e2 e3 e4 e5 e6 hb5
          cases hst : staleB rs u now with
          | false =>
            have HST' : Hid (∀ j u', j < i + 1 → ups[j]? = some u' → staleB rs u' now = false) := by
              intro j u' h1 h2
              by_cases hji : j = i
              · subst hji
                rw [HUi.out] at h2; cases h2; exact hst
              · exact HST.out j u' (by omega) h2
            clear hst q0 q1 q2
            go_wp2
            go_roundg (ups.length - (i + 1))
            case measure => omega
            case rel => exact ⟨i + 1, by omega, by go_num, Nat.le_refl _, HST', I3⟩
          | true =>
            have HK3 : Hid (res = some (opV 24 now u.bucket u.key ⟨#[]⟩ u.seq)) := by
              show _ = _
              rw [HRES.out, find_first ups i u HUi.out hst (fun j x hj hx => HST.out j x hj hx)]; rfl
            clear hst
            go_wp2_with (refine wpList_store_row (by rfl) 47 _ _ (by rfl) (w.heap.size + 1) _ (by rfl) (by rfl) 47 zeroOp (by exact I3.out.res) (by kernel_rfl) (by kernel_rfl) (by kernel_rfl) ?_)
            refine bodyPost_ret (results_cell_tmp rfl _ _ (w.heap.size + 1) 47 _ _ rfl (setRow_heap _ _ zeroOp _ _ _ I3.out.res) Tryd.underlying47 rfl (by kernel_rfl)) rfl ?_
            show NextOut res w _ _
            rw [HK3.out]
            refine ⟨?_, ?_⟩
            · rfl
            · exact below_one_row _ _ _ _ _ I3.out.below (by omega)
        · have hltz : ¬ (i : Int) < (ups.length : Int) := by omega
          have HK3 : Hid (res = none) := by
            show _ = _
            rw [HRES.out, find_none ups (fun j x hx => HST.out j x (by have := (List.getElem?_eq_some_iff.1 hx).1; omega) hx)]; rfl
          go_wp2_with (refine wpList_store_row (by rfl) 47 _ _ (by rfl) (w.heap.size + 1) _ (by rfl) (by rfl) 47 zeroOp (by exact HI2.out.res) (by kernel_rfl) (by kernel_rfl) (by kernel_rfl) ?_)
          refine bodyPost_ret (results_cell_tmp rfl _ _ (w.heap.size + 1) 47 _ _ rfl (setRow_heap _ _ zeroOp _ _ _ HI2.out.res) Tryd.underlying47 rfl (by kernel_rfl)) rfl ?_
          show NextOut res w _ _
          rw [HK3.out]
          refine ⟨?_, ?_⟩
          · rfl
          · exact below_one_row _ _ _ _ _ HI2.out.below (by omega)

end Go.Proofs.YtnnfcbebjbfkoaaDoor
