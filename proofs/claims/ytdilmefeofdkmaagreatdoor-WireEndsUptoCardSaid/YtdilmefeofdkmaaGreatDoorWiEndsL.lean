/-
  The law WireEnds: the walk.
-/
import Derived.Test.YtdilmefeofdkmaaGreatDoorWiPieces
import Derived.Test.YtdilmefeofdkmaaGreatDoorWiEndsP
namespace Go.Proofs.YtdilmefeofdkmaaGreatDoor
open Go.RowKit

theorem held_done {s : RS} (h : s.done = true) : s.held = 0 := by unfold RS.held; rw [h]; rfl

set_option maxHeartbeats 16000000 in
set_option maxRecDepth 100000 in
theorem ends_walk (pieces : List (List UInt8)) (v : Value) (more : List UInt8) (w : World) (hG : Glob w) (hS : SlAt w 1 v (strRows pieces)) (hl : pieces.flatten.length ≤ 10000000) (hp : pieces.length ≤ 140737488351232) (hm : more.length ≤ 10000000) :
    Calls Tryz.prog 4 #[v, .string ⟨more.toArray⟩] w fun e w' => e = .returned (.bool true) ∧ Below w.heap.size w w' := by
  have HG : Hid (∀ W, Below w.heap.size w W → Glob W) := fun W hW => hG.later hW
  obtain ⟨a, c, rfl, hc⟩ := hS.at_str
  have HC := Lib.hid hc
  have HX := Lib.hid (ex_walk w hG)
  have HNW := Lib.hid (fun W hW => new_any W (HG.out W hW))
  clear hG hS hc
  go_enter Tryz.func4, Tryz.ntmps4
  go_wp2_with fail
  refine HX.out.mono ?_
  rintro e w1 ⟨rfl, b1⟩
  have B1 := Lib.hid b1
  clear b1 HX
  go_wp2_with fail
  refine (HNW.out w1 B1.out).mono ?_
  rintro e w2 ⟨rfl, r2, b2⟩
  obtain ⟨rd, hrd⟩ : ∃ x : Nat, w1.heap.size = x := ⟨_, rfl⟩
  have LR : Hid (w.heap.size ≤ rd) := by rw [← hrd]; exact B1.out.size
  rw [hrd] at r2 ⊢
  have B2 := Lib.hid (B1.out.trans (b2.mono B1.out.size))
  have R2 := Lib.hid r2
  clear r2 b2 hrd B1 HNW HG
  go_upto_region 5 with (fail)
  go_wp2
  go_loopg [7, 8, 9, 10, 11] pieces.length (fun gg s7 _ _ _ _ wr => ∃ (i : Nat) (ms : Nat → Prop), i ≤ pieces.length ∧ pieces.length - i ≤ gg ∧ s7 = .int .i64 i ∧ Hid (RdrAt wr rd ms (rsZ.feed (pieces.take i).flatten).1 []) ∧ Hid (Below w.heap.size w wr) ∧ Hid (∀ b, ms b → w.heap.size ≤ b))
  case atStart => exact ⟨0, _, Nat.zero_le _, by omega, rfl, R2, B2, fun b hb => by rw [hb]; exact LR.out⟩
  case round =>
    obtain ⟨i, ms, hin, hg, rfl, RX, BX, LX⟩ := hrel
    have WX : Hid (WF (pieces.take i).flatten.length (rsZ.feed (pieces.take i).flatten).1) := by
      have := feed_wf (pieces.take i).flatten rsZ 0 rsZ_wf
      rw [Nat.zero_add] at this
      exact this
    have FX := Lib.hid (feed_fault (pieces.take i).flatten rsZ (fun _ => rfl))
    have hle0 : (pieces.take i).flatten.length ≤ 10000000 := by
      have h1 : (pieces.take i).flatten.length ≤ pieces.flatten.length := by
        conv => rhs; rw [← List.take_append_drop i pieces]
        rw [List.flatten_append, List.length_append]
        omega
      omega
    by_cases hlt : i < pieces.length
    · have hltz : (i : Int) < (pieces.length : Int) := by omega
      obtain ⟨p, hip⟩ : ∃ p, pieces[i]? = some p := ⟨_, List.getElem?_eq_getElem hlt⟩
      obtain ⟨g, off, rfl, k0⟩ := HC.out i p hip
      have htk : (pieces.take (i + 1)).flatten = (pieces.take i).flatten ++ p := by rw [List.take_add_one, hip]; simp
      have hle : (pieces.take (i + 1)).flatten.length ≤ 10000000 := by
        have h1 : (pieces.take (i + 1)).flatten.length ≤ pieces.flatten.length := by
          conv => rhs; rw [← List.take_append_drop (i + 1) pieces]
          rw [List.flatten_append, List.length_append]
          omega
        omega
      rw [htk, List.length_append] at hle
      have HTK : Hid ((rsZ.feed (pieces.take (i + 1)).flatten).1 = ((rsZ.feed (pieces.take i).flatten).1.feed p).1) := by show _ = _; rw [htk, feed_append]
      generalize (pieces.take i).flatten.length = N at *
      generalize (rsZ.feed (pieces.take i).flatten).1 = s at *
      have K0 := Lib.hid k0
      have HDN := Lib.hid (done_any RX.out)
      have HFT := Lib.hid (fault_any RX.out)
      have HFE := Lib.hid (feed_any p RX.out WX.out (by omega))
      have HCL := Lib.hid (feed_close p s)
      have WS := Lib.hid (feed_wf p s N WX.out)
      have HQL := Lib.hid (feed_len p s)
      have HSTOP := Lib.hid (fun h => feed_done (s := s) h p)
      clear htk hip k0
      obtain ⟨dn, hdn⟩ : ∃ x, s.done = x := ⟨_, rfl⟩
      rw [hdn] at HDN
      have HDE := Lib.hid hdn
      have e0 := cell_later BX.out K0.out
      clear hdn
      go_wp2_with fail
      refine HDN.out.mono ?_
      rintro e w3 ⟨rfl, rfl⟩
      go_wp2_with fail
      refine HFT.out.mono ?_
      rintro e w4 ⟨rfl, rfl⟩
      go_wp2_with fail
      refine HFE.out.mono ?_
      rintro e w5 ⟨v5, ms5, K5, rfl, r5, m5, q5, _, _⟩
      obtain ⟨a5, c5, rfl⟩ := q5.form
      have R5 := Lib.hid r5
      have Q5 := Lib.hid q5
      have B5 := Lib.hid (BX.out.trans (m5.below BX.out.size LX.out))
      have L5 : Hid (∀ b, ms5 b → w.heap.size ≤ b) := fun b hb => by
        rcases m5.new b hb with h | h
        · exact LX.out b h
        · exact Nat.le_trans BX.out.size h
      clear r5 m5 q5 e0 HDN HFT HFE K0 RX BX LX
      cases dn with
      | true =>
        have hst := HSTOP.out HDE.out
        rw [hst] at R5 Q5 HTK ⊢
        have HF5 := Lib.hid (fault_any R5.out)
        have HH5 := Lib.hid (held_any R5.out WX.out (by omega))
        rw [held_done HDE.out] at HH5
        have hn : (([] : List ReqV).length : Int) = 0 := rfl
        have n1 : (s.fault != s.fault) = false := by simp
        have n2 : (s.fault == s.fault) = true := by simp
        simp only [List.length_nil]
        go_upto_region 11 with (fail)
        go_cut [73] (fun sx wx => sx = .bool false ∧ ∃ n, wx = w5.drewN n)
        case first =>
          go_wp2_with fail
          refine HF5.out.mono ?_
          rintro e w6 ⟨rfl, rfl⟩
          go_wp2_with fail
          refine HH5.out.mono ?_
          rintro e w7 ⟨rfl, n7, rfl⟩
          go_wp2_with fail
          go_meet
          exact ⟨rfl, n7, rfl⟩
        case rest =>
        obtain ⟨rfl, n7, rfl⟩ := hcut
        have R7 := Lib.hid (R5.out.later (belowDrewN (Below.refl _ _) n7))
        have B7 := Lib.hid (belowDrewN B5.out n7)
        clear HF5 HH5 n1 n2 hn
        generalize w5.drewN n7 = w7 at R7 B7 ⊢
        go_wp2
        go_loopg [11] 1 (fun gg s11 wr => s11 = .int .i64 0 ∧ wr = w7)
        case atStart => exact ⟨rfl, rfl⟩
        case round =>
          obtain ⟨rfl, rfl⟩ := hrel
          go_wp2
          go_roundg (pieces.length - (i + 1))
          case measure => omega
          case rel => exact ⟨i + 1, ms5, by omega, by omega, by go_num, by rw [HTK.out]; exact R7.out, B7, L5.out⟩
      | false =>
        have HD5 := Lib.hid (done_any R5.out)
        generalize s.feed p = r at *
        obtain ⟨s2, qs⟩ := r
        simp only at R5 Q5 HTK HD5 HCL WS HQL ⊢
        have hql := HQL.out
        go_upto_region 11 with (fail)
        go_cut [73] (fun sx wx => sx = .bool false ∧ wx = w5)
        case first =>
          by_cases hq0 : qs.length = 0
          · have hqz : (qs.length : Int) = 0 := by omega
            clear hq0
            go_wp2_with fail
            go_meet
            exact ⟨rfl, rfl⟩
          · obtain ⟨m, hm⟩ : ∃ m, qs.length = m + 1 := ⟨qs.length - 1, by omega⟩
            obtain ⟨q, hget⟩ : ∃ q, qs[m]? = some q := ⟨_, List.getElem?_eq_getElem (by omega)⟩
            obtain ⟨gq, cq, vf, hv, _, _, _, _, _, k5, _, _⟩ := Q5.out.at hget
            injection hv with hv _ ec
            subst hv ec
            have HCQ := Lib.hid (HCL.out _ q hget)
            have hlz : (qs.length : Int) = (m : Int) + 1 := by omega
            have HM := Lib.hid hm
            clear hq0 hm hget
            obtain ⟨cq2, hcq2⟩ : ∃ x, q.close = x := ⟨_, rfl⟩
            rw [hcq2] at k5 HCQ
            clear hcq2
            cases cq2
            · go_wp2_with fail
              go_meet
              exact ⟨rfl, rfl⟩
            · have hd2 := (HCQ.out rfl).2
              rw [hd2] at HD5
              clear hd2
              go_wp2_with fail
              refine HD5.out.mono ?_
              rintro e w6 ⟨rfl, rfl⟩
              go_wp2_with fail
              go_meet
              exact ⟨rfl, rfl⟩
        case rest =>
        obtain ⟨rfl, rfl⟩ := hcut
        obtain ⟨w5, rfl⟩ : ∃ wx : World, wx = wc := ⟨_, rfl⟩
        go_wp2
        go_loopg [11] (qs.length + 1) (fun gg s11 wr => ∃ k : Nat, k ≤ qs.length ∧ qs.length + 1 - k ≤ gg ∧ s11 = .int .i64 k ∧ wr = w5)
        case atStart => exact ⟨0, Nat.zero_le _, by omega, rfl, rfl⟩
        case round =>
          obtain ⟨k, hkn, hgk, rfl, rfl⟩ := hrel
          by_cases hk : k + 1 < qs.length
          · have hkz : (k : Int) + 1 < (qs.length : Int) := by omega
            have hkl : (k : Int) < (qs.length : Int) := by omega
            obtain ⟨q, hkq⟩ : ∃ q, qs[k]? = some q := ⟨_, List.getElem?_eq_getElem (by omega)⟩
            obtain ⟨gq, cq, vf, hv, _, _, _, _, _, k5, _, _⟩ := Q5.out.at hkq
            injection hv with hv _ ec
            subst hv ec
            have hcf : q.close = false := by
              cases hq : q.close
              · rfl
              · have := (HCL.out k q hkq hq).1
                omega
            rw [hcf] at k5
            clear hkq hcf
            go_wp2
            go_roundg (qs.length + 1 - (k + 1))
            case measure => omega
            case rel => exact ⟨k + 1, by omega, by omega, by go_num, rfl⟩
          · have hkz : (qs.length : Int) ≤ (k : Int) + 1 := by omega
            go_wp2
            go_roundg (pieces.length - (i + 1))
            case measure => omega
            case rel => exact ⟨i + 1, ms5, by omega, by omega, by go_num, by rw [HTK.out]; exact R5.out, B5, L5.out⟩
    · have he : i = pieces.length := by omega
      subst he
      rw [List.take_length] at RX WX FX hle0
      generalize pieces.flatten.length = N at *
      generalize (rsZ.feed pieces.flatten).1 = s at *
      have HDN := Lib.hid (done_any RX.out)
      have HFT := Lib.hid (fault_any RX.out)
      obtain ⟨dn, hdn⟩ : ∃ x, s.done = x := ⟨_, rfl⟩
      rw [hdn] at HDN
      have HDE := Lib.hid hdn
      clear hdn hlt hg hin
      cases dn with
      | false =>
        rw [FX.out HDE.out] at HFT
        go_wp2_with fail
        refine HDN.out.mono ?_
        rintro e w3 ⟨rfl, rfl⟩
        go_wp2_with fail
        refine HFT.out.mono ?_
        rintro e w4 ⟨rfl, rfl⟩
        go_wp2
        go_ret
        exact ⟨rfl, BX.out⟩
      | true =>
        have HFE := Lib.hid (feed_any more RX.out WX.out (by omega))
        rw [feed_done HDE.out more] at HFE
        have hH := held_done HDE.out
        go_wp2_with fail
        refine HDN.out.mono ?_
        rintro e w3 ⟨rfl, rfl⟩
        go_wp2_with fail
        refine HFT.out.mono ?_
        rintro e w4 ⟨rfl, rfl⟩
        go_wp2_with fail
        refine HFE.out.mono ?_
        rintro e w5 ⟨v5, ms5, K5, rfl, r5, m5, q5, _, _⟩
        obtain ⟨a5, c5, rfl⟩ := q5.form
        have B5 := Lib.hid (BX.out.trans (m5.below BX.out.size LX.out))
        have HF5 := Lib.hid (fault_any r5)
        have HH5 := Lib.hid (held_any r5 WX.out (by omega))
        rw [hH] at HH5
        simp only [List.length_nil]
        have n2 : (s.fault == s.fault) = true := by simp
        clear r5 m5 q5 hH
        go_wp2_with fail
        refine HF5.out.mono ?_
        rintro e w6 ⟨rfl, rfl⟩
        go_wp2_with fail
        refine HH5.out.mono ?_
        rintro e w7 ⟨rfl, n7, rfl⟩
        go_wp2
        go_ret
        exact ⟨rfl, belowDrewN B5.out n7⟩

end Go.Proofs.YtdilmefeofdkmaaGreatDoor
