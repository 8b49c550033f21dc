/-
  The law WirePieces: the walk. (Printed by wip/gen/wipieces.py.)
-/
import Derived.Test.YtdilmefeofdkmaaGreatDoorSm24
import Derived.Deep.AppendLies
namespace Go.Proofs.YtdilmefeofdkmaaGreatDoor
open Go.RowKit

theorem SlAt.laterX {w w' : World} {sz : Nat} {v : Value} {rows : List (List Value)} (h : SlAt w sz v rows) (hb : Below w.heap.size w w') : SlAt w' sz v rows := by
  obtain ⟨a, c, rfl, hl, h⟩ := h
  refine ⟨a, c, rfl, hl, fun i r hr => ?_⟩
  obtain ⟨b, off, rfl, hc⟩ := h i r hr
  exact ⟨b, off, rfl, fun j u hu => cell_later hb (hc j u hu)⟩
theorem strs_cellX {w : World} {base : Nat} {l : List (List UInt8)} {v : Value} (h : StrsAt w base l v) {i : Nat} {t : List UInt8} (hi : l[i]? = some t) : ∃ g c, v = .slice (some ⟨g, 0, none⟩) l.length c ∧ base ≤ g ∧ w.cell? ⟨g, i, none⟩ = some (.string ⟨t.toArray⟩) := by
  have hlt := (List.getElem?_eq_some_iff.1 hi).1
  obtain ⟨g, c, hv, hb, hg⟩ := h.form (by omega)
  have k1 := h.cells (g := g) (by rw [hv]; rfl) i (.string ⟨t.toArray⟩) (by simp [strCs, hi])
  rw [Addr.add_lit, Nat.zero_add] at k1
  exact ⟨g, c, hv, hb, k1⟩
theorem ends_flds (s : RS) : ∀ q ∈ s.ends.2, q.fields = s.fields := by
  intro q hq
  unfold RS.ends at hq
  simp only at hq
  repeat' split at hq
  all_goals first
    | (simp at hq; done)
    | (simp [RS.complete, RS.req] at hq; rw [hq])
theorem step_flds (s : RS) (b : UInt8) : ∀ q ∈ (s.step b).2, q.fields = s.fields := by
  intro q hq
  unfold RS.step at hq
  cases hm : s.mode <;> rw [hm] at hq <;> simp only at hq
  · cases hq
  · unfold RS.field at hq
    simp only at hq
    have hc : s.counts.fields = s.fields := by unfold RS.counts; split <;> rfl
    repeat' split at hq
    all_goals first
      | (cases hq; done)
      | (rw [ends_flds _ q hq]; exact hc)
  · unfold RS.bytes at hq
    simp only at hq
    split at hq
    · simp [RS.complete, RS.req] at hq; rw [hq]
    · cases hq
  · cases hq
  · cases hq
  · cases hq
  · unfold RS.last at hq
    have hf : (s.chunkLine b).1.fields = s.fields := by
      unfold RS.chunkLine
      split
      · rfl
      · split <;> rfl
    generalize s.chunkLine b = r at *
    obtain ⟨t, o⟩ := r
    cases o with
    | none => cases hq
    | some line =>
      simp only at hq
      split at hq
      · cases hq
      · simp [RS.complete, RS.req] at hq
        rw [hq]
        exact hf
theorem feed_flds : ∀ (l : List UInt8) (s : RS) (N : Nat), WF N s → ∀ q ∈ (s.feed l).2, q.fields.length ≤ 50
  | [], s, N, _, q, hq => by cases hq
  | b :: l, s, N, h, q, hq => by
    unfold RS.feed at hq
    split at hq
    · cases hq
    · rename_i hd
      simp only [List.mem_append] at hq
      rcases hq with hq | hq
      · rw [step_flds s b q hq]; exact h.flds
      · exact feed_flds l (s.step b).1 (N + 1) (step_wf h (by simpa using hd) b) q hq
theorem strs_slAt {w : World} {base : Nat} {l : List (List UInt8)} {v : Value} (h : w.ownsRow base 9 1 v l.length (strCs l)) (hl : l.length ≤ 140737488351232) : SlAt w 1 v (strRows l) := by
  obtain ⟨a, c, hv⟩ := rowB_form h
  refine ⟨a, c, by rw [hv, strRows_len], by rw [strRows_len]; exact hl, fun i r hr => ?_⟩
  unfold strRows at hr
  rw [List.getElem?_map] at hr
  cases ht : l[i]? with
  | none => rw [ht] at hr; cases hr
  | some t =>
    rw [ht] at hr
    injection hr with hr
    obtain ⟨g, c', hv2, _, k⟩ := strs_cellX h ht
    rw [hv] at hv2
    injection hv2 with e1 _ _
    refine ⟨g, 0, e1, fun j u hu => ?_⟩
    rw [← hr] at hu
    rcases j with _ | j
    · simp at hu
      subst hu
      rw [show 0 + i * 1 + 0 = i from by omega]
      exact k
    · simp at hu

/-- a byte of a text, as a text -/
def ones (l : List UInt8) : List (List UInt8) := l.map fun b => [b]
theorem ones_flat (l : List UInt8) : (ones l).flatten = l := by
  induction l with
  | nil => rfl
  | cons b l ih => unfold ones at ih ⊢; simp [ih]
theorem ones_len (l : List UInt8) : (ones l).length = l.length := by simp [ones]
theorem ones_take (l : List UInt8) {i : Nat} {b : UInt8} (h : l[i]? = some b) : strCs (ones (l.take (i + 1))) = strCs (ones (l.take i)) ++ [.string ⟨#[b]⟩] := by
  rw [List.take_add_one, h]
  simp [ones, strCs]
theorem byte_extract (l : List UInt8) {i : Nat} {b : UInt8} (h : l[i]? = some b) : (⟨l.toArray⟩ : ByteArray).extract i (i + 1) = ⟨#[b]⟩ := by
  obtain ⟨hlt, hb⟩ := List.getElem?_eq_some_iff.1 h
  have h1 := Lib.extract_data (⟨l.toArray⟩ : ByteArray) i (i + 1)
  have h2 : (⟨l.toArray⟩ : ByteArray).data.toList = l := rfl
  rw [h2, show i + 1 - i = 1 from by omega, List.drop_eq_getElem_cons hlt, hb] at h1
  exact ByteArray.ext (Array.ext' h1)

set_option maxHeartbeats 16000000 in
set_option maxRecDepth 100000 in
theorem pieces_walk (pieces : List (List UInt8)) (v : Value) (w : World) (hG : Glob w) (hS : SlAt w 1 v (strRows pieces)) (hl : pieces.flatten.length ≤ 10000000) (hp : pieces.length ≤ 140737488351232) :
    Calls Tryz.prog 3 #[v] w fun e w' => e = .returned (.bool true) ∧ Below w.heap.size w w' := by
  obtain ⟨i0, hi, hz0, hz1, hz2⟩ := info_string
  have HG : Hid (∀ W, Below w.heap.size w W → Glob W) := fun W hW => hG.later hW
  have HSL := Lib.hid hS
  obtain ⟨a, c, rfl, hc⟩ := hS.at_str
  have HC := Lib.hid hc
  have HX := Lib.hid (ex_walk w hG)
  obtain ⟨r, hr⟩ : ∃ r, rsZ.feed pieces.flatten = r := ⟨_, rfl⟩
  have HALL : Hid (∀ W (l : List (List UInt8)) (v : Value), Below w.heap.size w W → SlAt W 1 v (strRows l) → l.flatten = pieces.flatten → l.length ≤ 140737488351232 → Calls Tryz.prog 11 #[v] W fun e w' => ∃ v K, e = .returned (.tuple #[v, .int .i64 r.1.fault, .int .i64 r.1.held]) ∧ ReqsAt w' v r.2 K ∧ Below W.heap.size W w') := fun W l v hW hs hf hn => by
    refine (all_law l v W (HG.out W hW) hs (by rw [hf]; omega) hn).mono ?_
    rintro e w' ⟨v, K, h1, h2, _, h4⟩
    rw [hf, hr] at h1 h2
    exact ⟨v, K, h1, h2, h4⟩
  have HQL : Hid (r.2.length ≤ 10000000) := by
    have := feed_len pieces.flatten rsZ
    rw [hr] at this
    exact Nat.le_trans this hl
  have HQF : Hid (∀ q ∈ r.2, q.fields.length ≤ 50) := by
    have := feed_flds pieces.flatten rsZ 0 rsZ_wf
    rw [hr] at this
    exact this
  clear hr
  obtain ⟨⟨ft, hd, qs⟩, hrr⟩ : ∃ x : Int × Int × List ReqV, x = (r.1.fault, r.1.held, r.2) := ⟨_, rfl⟩
  simp only [Prod.mk.injEq] at hrr
  obtain ⟨h1, h2, h3⟩ := hrr
  rw [← h1, ← h2, ← h3] at HALL
  rw [← h3] at HQL HQF
  clear h1 h2 h3 r
  have HPL := Lib.hid hl
  clear hG hS hc
  go_enter Tryz.func3, Tryz.ntmps3
  go_wp2_with fail
  refine HX.out.mono ?_
  rintro e w1 ⟨rfl, b1⟩
  have B1 := Lib.hid b1
  clear b1 HX
  go_wp2
  go_loopg [4, 5] pieces.length (fun gg s4 s5 wr => ∃ i : Nat, i ≤ pieces.length ∧ pieces.length - i ≤ gg ∧ s5 = .int .i64 i ∧ s4 = .string ⟨(pieces.take i).flatten.toArray⟩ ∧ wr = w1)
  case atStart => exact ⟨0, Nat.zero_le _, by omega, rfl, rfl, rfl⟩
  case round =>
    obtain ⟨i, hin, hg, rfl, rfl, rfl⟩ := hrel
    by_cases hlt : i < pieces.length
    · have hltz : (i : Int) < (pieces.length : Int) := by omega
      obtain ⟨p, hip⟩ : ∃ p, pieces[i]? = some p := ⟨_, List.getElem?_eq_getElem hlt⟩
      obtain ⟨g, off, rfl, k0⟩ := HC.out i p hip
      have e0 := cell_later B1.out k0
      have htk : (pieces.take (i + 1)).flatten = (pieces.take i).flatten ++ p := by rw [List.take_add_one, hip]; simp
      have hle : (pieces.take (i + 1)).flatten.length ≤ 10000000 := by
        have h1 : (pieces.take (i + 1)).flatten.length ≤ pieces.flatten.length := by
          conv => rhs; rw [← List.take_append_drop (i + 1) pieces]
          rw [List.flatten_append, List.length_append]
          omega
        omega
      rw [htk, List.length_append] at hle
      have HTK := Lib.hid htk
      generalize (pieces.take i).flatten = X at *
      clear htk hip k0
      go_wp2
      go_roundg (pieces.length - (i + 1))
      case measure => omega
      case rel => exact ⟨i + 1, by omega, by omega, by go_num, (by rw [HTK.out]; first | rfl | (rw [str_app])), rfl⟩
    · have he : i = pieces.length := by omega
      subst he
      rw [List.take_length]
      have hpl := HPL.out
      have HFL := Lib.hid (ones_flat pieces.flatten)
      have HFL1 : Hid ([pieces.flatten].flatten = pieces.flatten) := by show _ = _; simp
      have HFP : Hid (∃ x, x = pieces.flatten) := ⟨_, rfl⟩
      generalize hfl : pieces.flatten = fl at *
      have HFP := Lib.hid hfl
      clear hfl
      clear hlt hg hin
      obtain ⟨w1, rfl⟩ : ∃ wx : World, wx = wr := ⟨_, rfl⟩
      go_wp2
      go_loopg [6, 7] fl.length (fun gg s6 s7 wr => ∃ (i : Nat) (v : Value), i ≤ fl.length ∧ fl.length - i ≤ gg ∧ s7 = .int .i64 i ∧ s6 = v ∧ Hid (StrsAt wr w1.heap.size (ones (fl.take i)) v) ∧ Hid (Below w1.heap.size w1 wr))
      case atStart => exact ⟨0, _, Nat.zero_le _, by omega, rfl, rfl, World.ownsRow_nil _ _ _ _, Below.refl _ _⟩
      case round =>
        obtain ⟨i, v6, hin, hg, rfl, h6, SA, BW⟩ := hrel
        obtain ⟨x, cc, rfl⟩ := rowB_form SA.out
        subst h6
        by_cases hlt : i < fl.length
        · have hltz : (i : Int) < (fl.length : Int) := by omega
          obtain ⟨p, hip⟩ : ∃ p, fl[i]? = some p := ⟨_, List.getElem?_eq_getElem hlt⟩
          have HOT := Lib.hid (ones_take fl hip)
          have hbx := byte_extract fl hip
          have hlo : (ones (fl.take i)).length = i := by rw [ones_len, List.length_take]; omega
          have hc3 : (i : Int) ≤ (i : Int) + 1 := by omega
          have hc4 : (i : Int) + 1 ≤ (fl.length : Int) := by omega
          have hsz := BW.out.size
          have HLO := Lib.hid hlo
          rw [hlo]
          have SAX : Hid (wr.ownsRow w1.heap.size 9 1 (.slice x i cc) i (strCs (ones (fl.take i)))) := by
            have h1 := SA.out
            unfold StrsAt at h1
            rw [hlo] at h1
            exact h1
          clear hip hlt hlo
          go_wp2_with (refine wpList_append_lies _ rfl _ _ 22 rfl w1.heap.size 9 i0 _ 1 16 Tryz.underlying22 hi hz0 hz1 hz2 rfl (by decide) _ _ _ rfl (SAX.out.alloc _) ⟨wr.heap.size, 0, none⟩ 1 1 [.string ⟨#[p]⟩] rfl rfl (fun j u hj => by rw [Addr.add_lit, cell_of_heap (heap_alloc_new _ _)]; simpa using hj) (by simp [Value.oneCell']) (by decide) (by simp only [maxLen]; omega) (by omega) (by simp; omega) _ rfl ?_)
          intro gn cap w2 hown hgr hat hlt2
          have HO : Hid (StrsAt w2 w1.heap.size (ones (fl.take (i + 1))) (.slice (some ⟨gn, 0, none⟩) (i + 1) cap)) := by
            show StrsAt _ _ _ _
            unfold StrsAt
            rw [HOT.out, show (ones (fl.take (i + 1))).length = i + 1 from by rw [ones_len, List.length_take]; omega]
            exact hown
          have HB : Hid (Below w1.heap.size w1 w2) := by
            refine (below_alloc BW.out (Nat.le_refl _) _).trans ((Chg.grown hgr).below (by simp; omega) fun k hk => ?_)
            exact (SAX.out.lt k hk.symm).1
          clear hown hgr hat
          go_wp2
          go_roundg (fl.length - (i + 1))
          case measure => omega
          case rel => exact ⟨i + 1, _, by omega, by omega, by go_num, rfl, HO, HB⟩
        · have he : i = fl.length := by omega
          subst he
          have sa := SA.out
          rw [List.take_length] at sa
          rw [List.take_length, ones_len]
          unfold StrsAt at sa
          have SO : Hid (SlAt wr 1 (.slice x fl.length cc) (strRows (ones fl))) := by
            have h1 := strs_slAt sa (by rw [ones_len]; omega)
            rw [ones_len] at h1
            exact h1
          have B2 := Lib.hid (B1.out.trans (BW.out.mono B1.out.size))
          clear sa SA BW hlt hg hin
          obtain ⟨w2, rfl⟩ : ∃ wx : World, wx = wr := ⟨_, rfl⟩
          have HA1 := Lib.hid (HALL.out w2 pieces _ B2.out (HSL.out.laterX B2.out) HFP.out hp)
          go_wp2_with fail
          refine HA1.out.mono ?_
          rintro e w3 ⟨va, KA, rfl, qa, ba⟩
          obtain ⟨aa, ca, rfl⟩ := qa.form
          have B3 := Lib.hid (B2.out.trans (ba.mono B2.out.size))
          have QA3 := Lib.hid qa
          have SO3 := Lib.hid (SO.out.laterX ba)
          clear qa ba HA1 SO B2
          have HA2 := Lib.hid (HALL.out (w3.alloc (.cells #[.string ⟨fl.toArray⟩] 9)) [fl] (.slice (some ⟨w3.heap.size, 0, none⟩) 1 1) (below_alloc B3.out (Nat.le_refl _) _) ⟨some ⟨w3.heap.size, 0, none⟩, 1, rfl, by simp [strRows], fun i r hr => by
            rcases i with _ | i
            · simp [strRows] at hr
              subst hr
              refine ⟨w3.heap.size, 0, rfl, fun j u hu => ?_⟩
              rcases j with _ | j
              · simp at hu
                subst hu
                exact cell_new _ _ _ _ _ _ rfl rfl
              · simp at hu
            · simp [strRows] at hr⟩ HFL1.out (by simp))
          go_wp2_with fail
          refine HA2.out.mono ?_
          rintro e w4 ⟨vb, KB, rfl, qb, bb⟩
          obtain ⟨ab, cb, rfl⟩ := qb.form
          have b34 : Below w3.heap.size w3 w4 := (below_alloc (Below.refl _ _) (Nat.le_refl _) _).trans (bb.mono (by simp))
          have B4 := Lib.hid (B3.out.trans (b34.mono B3.out.size))
          have QA4 := Lib.hid (QA3.out.later b34)
          have QB4 := Lib.hid qb
          have SO4 := Lib.hid (SO3.out.laterX b34)
          clear qb bb b34 HA2 SO3 B3 QA3
          have HA3 := Lib.hid (HALL.out w4 (ones fl) _ B4.out SO4.out HFL.out (by rw [ones_len]; omega))
          go_wp2_with fail
          refine HA3.out.mono ?_
          rintro e w5 ⟨vc, KC, rfl, qc, bc⟩
          obtain ⟨ac, cc2, rfl⟩ := qc.form
          have B5 := Lib.hid (B4.out.trans (bc.mono B4.out.size))
          have QA := Lib.hid (QA4.out.later bc)
          have QB := Lib.hid (QB4.out.later bc)
          have QC := Lib.hid qc
          clear qc bc HA3 SO4 B4 QA4 QB4 HALL HSL HC HFL HFL1 HFP
          have n1 : (ft != ft) = false := by simp
          have n2 : (hd != hd) = false := by simp
          have n3 : ((qs.length : Int) != (qs.length : Int)) = false := by simp
          have n4 : (ft == ft) = true := by simp
          have n5 : (hd == hd) = true := by simp
          have n6 : ((qs.length : Int) == (qs.length : Int)) = true := by simp
          go_upto_region 15 with (fail)
          go_cut [97] (fun sx wx => sx = .bool false ∧ wx = w5)
          case first =>
            go_wp2_with fail
            go_meet
            exact ⟨rfl, rfl⟩
          case rest =>
          obtain ⟨rfl, rfl⟩ := hcut
          obtain ⟨w5, rfl⟩ : ∃ wx : World, wx = wc := ⟨_, rfl⟩
          clear n1 n2 n3 n4 n5 n6
          go_upto_region 17 with (fail)
          go_wp2
          go_loopg [17, 18, 19] qs.length (fun gg s17 _ _ wr => ∃ i : Nat, i ≤ qs.length ∧ qs.length - i ≤ gg ∧ s17 = .int .i64 i ∧ Hid (Below w5.heap.size w5 wr))
          case atStart => exact ⟨0, Nat.zero_le _, by omega, rfl, Below.refl _ _⟩
          case round =>
            obtain ⟨i, hin, hg, rfl, BR⟩ := hrel
            have hql := HQL.out
            by_cases hlt : i < qs.length
            · have hltz : (i : Int) < (qs.length : Int) := by omega
              obtain ⟨q, hiq⟩ : ∃ q, qs[i]? = some q := ⟨_, List.getElem?_eq_getElem hlt⟩
              have hqf := HQF.out q (List.mem_of_getElem? hiq)
              obtain ⟨ga, ca', vfa, hva, a0, a1, a2, a3, a4, a5, oa, _⟩ := (QA.out.later BR.out).at hiq
              obtain ⟨gb, cb', vfb, hvb, b0, b1, b2, b3, b4, b5, ob, _⟩ := (QB.out.later BR.out).at hiq
              obtain ⟨gc, cc', vfc, hvc, c0, c1, c2, c3, c4, c5, oc, _⟩ := (QC.out.later BR.out).at hiq
              injection hva with hva _ ea
              injection hvb with hvb _ eb
              injection hvc with hvc _ ec
              subst hva hvb hvc ea eb ec
              have PA := pairs_own oa (by omega)
              have PB := pairs_own ob (by omega)
              have PC := pairs_own oc (by omega)
              have HSMab : Hid (∀ W, Below wr.heap.size wr W → Calls Tryz.prog 12 #[reqAgg q vfa, reqAgg q vfb] W fun e w' => e = .returned (.bool true) ∧ Below W.heap.size W w') := fun W hW => by
                have := same_any q q vfa vfb W (PA.later hW) (PB.later hW)
                rwa [decide_eq_true rfl] at this
              have HSMbc : Hid (∀ W, Below wr.heap.size wr W → Calls Tryz.prog 12 #[reqAgg q vfb, reqAgg q vfc] W fun e w' => e = .returned (.bool true) ∧ Below W.heap.size W w') := fun W hW => by
                have := same_any q q vfb vfc W (PB.later hW) (PC.later hW)
                rwa [decide_eq_true rfl] at this
              have A0 := Lib.hid a0
              have A1 := Lib.hid a1
              have A2 := Lib.hid a2
              have A3 := Lib.hid a3
              have A4 := Lib.hid a4
              have A5 := Lib.hid a5
              have B0 := Lib.hid b0
              have B1 := Lib.hid b1
              have B2 := Lib.hid b2
              have B3 := Lib.hid b3
              have B4 := Lib.hid b4
              have B5 := Lib.hid b5
              have C0 := Lib.hid c0
              have C1 := Lib.hid c1
              have C2 := Lib.hid c2
              have C3 := Lib.hid c3
              have C4 := Lib.hid c4
              have C5 := Lib.hid c5
              clear oa ob oc PA PB PC hiq hlt
              clear a0 a1 a2 a3 a4 a5 b0 b1 b2 b3 b4 b5 c0 c1 c2 c3 c4 c5
              go_upto_region 20 with (fail)
              refine wp_region_held_drew (S := (fun W : World => Below wr.heap.size wr W)) (by kernel_rfl) (Below.drew (Below.refl _ _)) (fun hS0 => ?_)
              refine wpAnyH_take (i := 0) (oi := { dst := some 104, op := _, type := _, pos := _, after := _, guard := _ }) (v := ?_) rfl (by kernel_rfl) (by kernel_rfl) (by kernel_rfl) (fun _ _ _ h => h) (Or.inl ⟨by kernel_rfl, ?_⟩) (by assumption) ?_
              rotate_left
              · (intro w hSw; (try dsimp only at hSw); go_simp); all_goals (with_reducible rfl)
              try simp only [Act.put, List.setIfInBounds_toArray, List.set_cons_zero, List.set_cons_succ]
              refine wpAnyH_take (i := 1) (oi := { dst := some 105, op := _, type := _, pos := _, after := _, guard := _ }) (v := ?_) rfl (by kernel_rfl) (by kernel_rfl) (by kernel_rfl) (fun _ _ _ h => h) (Or.inl ⟨by kernel_rfl, ?_⟩) (by assumption) ?_
              rotate_left
              · (intro w hSw; (try dsimp only at hSw); go_simp); all_goals (with_reducible rfl)
              try simp only [Act.put, List.setIfInBounds_toArray, List.set_cons_zero, List.set_cons_succ]
              refine wpAnyH_take (i := 2) (oi := { dst := some 106, op := _, type := _, pos := _, after := _, guard := _ }) (v := ?_) rfl (by kernel_rfl) (by kernel_rfl) (by kernel_rfl) (fun _ _ _ h => h) (Or.inl ⟨by kernel_rfl, ?_⟩) (by assumption) ?_
              rotate_left
              · (intro w hSw; (try dsimp only at hSw); go_simp); all_goals (with_reducible rfl)
              try simp only [Act.put, List.setIfInBounds_toArray, List.set_cons_zero, List.set_cons_succ]
              refine wpAnyH_take (i := 3) (oi := { dst := some 107, op := _, type := _, pos := _, after := _, guard := _ }) (v := ?_) rfl (by kernel_rfl) (by kernel_rfl) (by kernel_rfl) (fun _ _ _ h => h) (Or.inl ⟨by kernel_rfl, ?_⟩) (by assumption) ?_
              rotate_left
              · (intro w hSw; (try dsimp only at hSw); (have ha0 := cell_later hSw A0.out); (have ha1 := cell_later hSw A1.out); (have ha2 := cell_later hSw A2.out); (have ha3 := cell_later hSw A3.out); (have ha4 := cell_later hSw A4.out); (have ha5 := cell_later hSw A5.out); (have hb0 := cell_later hSw B0.out); (have hb1 := cell_later hSw B1.out); (have hb2 := cell_later hSw B2.out); (have hb3 := cell_later hSw B3.out); (have hb4 := cell_later hSw B4.out); (have hb5 := cell_later hSw B5.out); go_simp); all_goals (with_reducible rfl)
              try simp only [Act.put, List.setIfInBounds_toArray, List.set_cons_zero, List.set_cons_succ]
              refine wpAnyH_take (i := 4) (oi := { dst := some 108, op := _, type := _, pos := _, after := _, guard := _ }) (v := ?_) rfl (by kernel_rfl) (by kernel_rfl) (by kernel_rfl) (fun _ _ _ h => h) (Or.inl ⟨by kernel_rfl, ?_⟩) (by assumption) ?_
              rotate_left
              · (intro w hSw; (try dsimp only at hSw); go_simp); all_goals (with_reducible rfl)
              try simp only [Act.put, List.setIfInBounds_toArray, List.set_cons_zero, List.set_cons_succ]
              refine wpAnyH_take (i := 5) (oi := { dst := some 109, op := _, type := _, pos := _, after := _, guard := _ }) (v := ?_) rfl (by kernel_rfl) (by kernel_rfl) (by kernel_rfl) (fun _ _ _ h => h) (Or.inl ⟨by kernel_rfl, ?_⟩) (by assumption) ?_
              rotate_left
              · (intro w hSw; (try dsimp only at hSw); go_simp); all_goals (with_reducible rfl)
              try simp only [Act.put, List.setIfInBounds_toArray, List.set_cons_zero, List.set_cons_succ]
              refine wpAnyH_take (i := 6) (oi := { dst := some 110, op := _, type := _, pos := _, after := _, guard := _ }) (v := ?_) rfl (by kernel_rfl) (by kernel_rfl) (by kernel_rfl) (fun _ _ _ h => h) (Or.inl ⟨by kernel_rfl, ?_⟩) (by assumption) ?_
              rotate_left
              · (intro w hSw; (try dsimp only at hSw); go_simp); all_goals (with_reducible rfl)
              try simp only [Act.put, List.setIfInBounds_toArray, List.set_cons_zero, List.set_cons_succ]
              refine wpAnyH_take (i := 7) (oi := { dst := some 111, op := _, type := _, pos := _, after := _, guard := _ }) (v := ?_) rfl (by kernel_rfl) (by kernel_rfl) (by kernel_rfl) (fun _ _ _ h => h) (Or.inl ⟨by kernel_rfl, ?_⟩) (by assumption) ?_
              rotate_left
              · (intro w hSw; (try dsimp only at hSw); (have ha0 := cell_later hSw A0.out); (have ha1 := cell_later hSw A1.out); (have ha2 := cell_later hSw A2.out); (have ha3 := cell_later hSw A3.out); (have ha4 := cell_later hSw A4.out); (have ha5 := cell_later hSw A5.out); (have hb0 := cell_later hSw B0.out); (have hb1 := cell_later hSw B1.out); (have hb2 := cell_later hSw B2.out); (have hb3 := cell_later hSw B3.out); (have hb4 := cell_later hSw B4.out); (have hb5 := cell_later hSw B5.out); go_simp); all_goals (with_reducible rfl)
              try simp only [Act.put, List.setIfInBounds_toArray, List.set_cons_zero, List.set_cons_succ]
              refine wpAnyH_ready (rs := [8]) (by kernel_rfl) (by simp) ?_
              refine (AllReadyH.cons (o := { dst := some 112, op := _, type := _, pos := _, after := _, guard := _ }) rfl (fun K hK => ?_) AllReadyH.nil)
              rw [if_pos (by kernel_rfl)]
              refine wp_call_go Tryz.func12 (by kernel_rfl) (by kernel_rfl) (by rfl) (HSMab.out _ hS0) (by rfl) ?_
              rintro e w' ⟨rfl, hb⟩
              refine ⟨_, rfl, ?_⟩
              refine hK.out _ w' (hS0.trans (hb.mono hS0.size)) (fun hSe => ?_)
              clear hK K
              try simp only [Act.put, List.setIfInBounds_toArray, List.set_cons_zero, List.set_cons_succ]
              refine wpAnyH_take (i := 9) (oi := { dst := some 18, op := _, type := _, pos := _, after := _, guard := _ }) (v := ?_) rfl (by kernel_rfl) (by kernel_rfl) (by kernel_rfl) (fun _ _ _ h => h) (Or.inl ⟨by kernel_rfl, ?_⟩) (by assumption) ?_
              rotate_left
              · (intro w hSw; (try dsimp only at hSw); go_simp); all_goals (with_reducible rfl)
              try simp only [Act.put, List.setIfInBounds_toArray, List.set_cons_zero, List.set_cons_succ]
              refine wpAnyH_done (by kernel_rfl) ?_ _
              have BX := Lib.hid hSe
              clear hSe
              go_upto_region 21 with (fail)
              refine wp_region_held_drew (S := (fun W : World => Below wr.heap.size wr W)) (by kernel_rfl) (Below.drew BX.out) (fun hS0 => ?_)
              refine wpAnyH_take (i := 0) (oi := { dst := some 113, op := _, type := _, pos := _, after := _, guard := _ }) (v := ?_) rfl (by kernel_rfl) (by kernel_rfl) (by kernel_rfl) (fun _ _ _ h => h) (Or.inl ⟨by kernel_rfl, ?_⟩) (by assumption) ?_
              rotate_left
              · (intro w hSw; (try dsimp only at hSw); go_simp); all_goals (with_reducible rfl)
              try simp only [Act.put, List.setIfInBounds_toArray, List.set_cons_zero, List.set_cons_succ]
              refine wpAnyH_take (i := 1) (oi := { dst := some 114, op := _, type := _, pos := _, after := _, guard := _ }) (v := ?_) rfl (by kernel_rfl) (by kernel_rfl) (by kernel_rfl) (fun _ _ _ h => h) (Or.inl ⟨by kernel_rfl, ?_⟩) (by assumption) ?_
              rotate_left
              · (intro w hSw; (try dsimp only at hSw); go_simp); all_goals (with_reducible rfl)
              try simp only [Act.put, List.setIfInBounds_toArray, List.set_cons_zero, List.set_cons_succ]
              refine wpAnyH_take (i := 2) (oi := { dst := some 115, op := _, type := _, pos := _, after := _, guard := _ }) (v := ?_) rfl (by kernel_rfl) (by kernel_rfl) (by kernel_rfl) (fun _ _ _ h => h) (Or.inl ⟨by kernel_rfl, ?_⟩) (by assumption) ?_
              rotate_left
              · (intro w hSw; (try dsimp only at hSw); go_simp); all_goals (with_reducible rfl)
              try simp only [Act.put, List.setIfInBounds_toArray, List.set_cons_zero, List.set_cons_succ]
              refine wpAnyH_take (i := 3) (oi := { dst := some 116, op := _, type := _, pos := _, after := _, guard := _ }) (v := ?_) rfl (by kernel_rfl) (by kernel_rfl) (by kernel_rfl) (fun _ _ _ h => h) (Or.inl ⟨by kernel_rfl, ?_⟩) (by assumption) ?_
              rotate_left
              · (intro w hSw; (try dsimp only at hSw); (have hb0 := cell_later hSw B0.out); (have hb1 := cell_later hSw B1.out); (have hb2 := cell_later hSw B2.out); (have hb3 := cell_later hSw B3.out); (have hb4 := cell_later hSw B4.out); (have hb5 := cell_later hSw B5.out); (have hc0 := cell_later hSw C0.out); (have hc1 := cell_later hSw C1.out); (have hc2 := cell_later hSw C2.out); (have hc3 := cell_later hSw C3.out); (have hc4 := cell_later hSw C4.out); (have hc5 := cell_later hSw C5.out); go_simp); all_goals (with_reducible rfl)
              try simp only [Act.put, List.setIfInBounds_toArray, List.set_cons_zero, List.set_cons_succ]
              refine wpAnyH_take (i := 4) (oi := { dst := some 117, op := _, type := _, pos := _, after := _, guard := _ }) (v := ?_) rfl (by kernel_rfl) (by kernel_rfl) (by kernel_rfl) (fun _ _ _ h => h) (Or.inl ⟨by kernel_rfl, ?_⟩) (by assumption) ?_
              rotate_left
              · (intro w hSw; (try dsimp only at hSw); go_simp); all_goals (with_reducible rfl)
              try simp only [Act.put, List.setIfInBounds_toArray, List.set_cons_zero, List.set_cons_succ]
              refine wpAnyH_take (i := 5) (oi := { dst := some 118, op := _, type := _, pos := _, after := _, guard := _ }) (v := ?_) rfl (by kernel_rfl) (by kernel_rfl) (by kernel_rfl) (fun _ _ _ h => h) (Or.inl ⟨by kernel_rfl, ?_⟩) (by assumption) ?_
              rotate_left
              · (intro w hSw; (try dsimp only at hSw); go_simp); all_goals (with_reducible rfl)
              try simp only [Act.put, List.setIfInBounds_toArray, List.set_cons_zero, List.set_cons_succ]
              refine wpAnyH_take (i := 6) (oi := { dst := some 119, op := _, type := _, pos := _, after := _, guard := _ }) (v := ?_) rfl (by kernel_rfl) (by kernel_rfl) (by kernel_rfl) (fun _ _ _ h => h) (Or.inl ⟨by kernel_rfl, ?_⟩) (by assumption) ?_
              rotate_left
              · (intro w hSw; (try dsimp only at hSw); go_simp); all_goals (with_reducible rfl)
              try simp only [Act.put, List.setIfInBounds_toArray, List.set_cons_zero, List.set_cons_succ]
              refine wpAnyH_take (i := 7) (oi := { dst := some 120, op := _, type := _, pos := _, after := _, guard := _ }) (v := ?_) rfl (by kernel_rfl) (by kernel_rfl) (by kernel_rfl) (fun _ _ _ h => h) (Or.inl ⟨by kernel_rfl, ?_⟩) (by assumption) ?_
              rotate_left
              · (intro w hSw; (try dsimp only at hSw); (have hb0 := cell_later hSw B0.out); (have hb1 := cell_later hSw B1.out); (have hb2 := cell_later hSw B2.out); (have hb3 := cell_later hSw B3.out); (have hb4 := cell_later hSw B4.out); (have hb5 := cell_later hSw B5.out); (have hc0 := cell_later hSw C0.out); (have hc1 := cell_later hSw C1.out); (have hc2 := cell_later hSw C2.out); (have hc3 := cell_later hSw C3.out); (have hc4 := cell_later hSw C4.out); (have hc5 := cell_later hSw C5.out); go_simp); all_goals (with_reducible rfl)
              try simp only [Act.put, List.setIfInBounds_toArray, List.set_cons_zero, List.set_cons_succ]
              refine wpAnyH_ready (rs := [8]) (by kernel_rfl) (by simp) ?_
              refine (AllReadyH.cons (o := { dst := some 121, op := _, type := _, pos := _, after := _, guard := _ }) rfl (fun K hK => ?_) AllReadyH.nil)
              rw [if_pos (by kernel_rfl)]
              refine wp_call_go Tryz.func12 (by kernel_rfl) (by kernel_rfl) (by rfl) (HSMbc.out _ hS0) (by rfl) ?_
              rintro e w' ⟨rfl, hb⟩
              refine ⟨_, rfl, ?_⟩
              refine hK.out _ w' (hS0.trans (hb.mono hS0.size)) (fun hSe => ?_)
              clear hK K
              try simp only [Act.put, List.setIfInBounds_toArray, List.set_cons_zero, List.set_cons_succ]
              refine wpAnyH_take (i := 9) (oi := { dst := some 19, op := _, type := _, pos := _, after := _, guard := _ }) (v := ?_) rfl (by kernel_rfl) (by kernel_rfl) (by kernel_rfl) (fun _ _ _ h => h) (Or.inl ⟨by kernel_rfl, ?_⟩) (by assumption) ?_
              rotate_left
              · (intro w hSw; (try dsimp only at hSw); go_simp); all_goals (with_reducible rfl)
              try simp only [Act.put, List.setIfInBounds_toArray, List.set_cons_zero, List.set_cons_succ]
              refine wpAnyH_done (by kernel_rfl) ?_ _
              have BY := Lib.hid hSe
              clear hSe
              go_wp2
              go_roundg (qs.length - (i + 1))
              case measure => omega
              case rel => exact ⟨i + 1, by omega, by omega, by go_num, BR.out.trans (BY.out.mono BR.out.size)⟩
            · have he : i = qs.length := by omega
              subst he
              go_wp2
              go_ret
              exact ⟨rfl, B5.out.trans (BR.out.mono B5.out.size)⟩

end Go.Proofs.YtdilmefeofdkmaaGreatDoor
