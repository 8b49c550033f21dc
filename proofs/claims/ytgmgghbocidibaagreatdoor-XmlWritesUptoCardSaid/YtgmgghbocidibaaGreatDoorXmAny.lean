/-
  strings.IndexAny at two ASCII bytes, whatever the text is.
-/
import Derived.Test.YtgmgghbocidibaaGreatDoorXmName
import Derived.Laws.RangeAny
import Derived.Laws.Runes
import Derived.Lib.OthersKept
import Derived.WalkMore
namespace Go.Proofs.YtgmgghbocidibaaGreatDoor
open Go.RowKit Go.Lib Go.PlainAid

theorem decode_noAscii {l : Bs} (hb : ¬ (l.getD 0 0).toNat < 128) (j : Nat) (hj : j < (decodeL l).2) : 128 ≤ (l.getD j 0).toNat := by
  rw [decodeL_N] at hj
  rcases decodeN_shape l.length (l.getD 0 0).toNat (l.getD 1 0).toNat (l.getD 2 0).toNat (l.getD 3 0).toNat with ⟨c, e⟩ | ⟨c1, c2, c3, cv, e⟩ | ⟨c1, c2, c3, c4, cv, cs, e⟩ | ⟨c1, c2, c3, c4, c5, cv, cw, e⟩ | e
  · exact absurd c hb
  · rw [e] at hj
    simp only at hj
    rcases (by omega : j = 0 ∨ j = 1) with rfl | rfl <;> omega
  · rw [e] at hj
    simp only at hj
    rcases (by omega : j = 0 ∨ j = 1 ∨ j = 2) with rfl | rfl | rfl <;> omega
  · rw [e] at hj
    simp only at hj
    rcases (by omega : j = 0 ∨ j = 1 ∨ j = 2 ∨ j = 3) with rfl | rfl | rfl | rfl <;> omega
  · rw [e] at hj
    simp only at hj
    obtain rfl : j = 0 := by omega
    omega

/-- a conversion whose value is known -/
theorem wpList_convert_known {P : Program} {ops : Array Oper} {rest : List Oper} {o : Oper} {a : Act} {w : World} {Q : Exit → Act → World → Prop} (hgd : o.guard = none) (src dst : TypeId) (x : Operand) (ho : o.op = .convert src dst x)
    (v v' : Value) (hx : a.eval x = v) (hr : (convert src dst v).run P w = .ok v' w) (h : wpList P ops Q rest (a.put o.dst v') w) : wpList P ops Q (o :: rest) a w :=
  wpList_plain hgd fun _ hK => by
    unfold Oper.wp execOp
    simp only [ho, hx, Sem.run_bind, Sem.run_pure, Result.andThen_ok, hr]
    exact hK _ _ h
set_option maxHeartbeats 4000000 in
set_option maxRecDepth 100000 in
theorem indexRune_no (q : UInt8) (hq : q.toNat < 128) (r : Int) (h0 : 128 ≤ r) (h1 : r ≤ 1114111) (w : World) :
    Calls Tryz.prog 92 #[.string ⟨#[60, q]⟩, .int .i32 r] w fun e w' => e = .returned (.int .i64 (-1)) ∧ Below w.heap.size w w' := by
  have hd : decide (r < 128) = false := by rw [decide_eq_false_iff_not]; omega
  obtain ⟨C, hC⟩ : ∃ C : ByteArray, (⟨#[60, q]⟩ : ByteArray) = C := ⟨_, rfl⟩
  have HCS : Hid (C.size = 2) := by show _ = _; rw [← hC]; rfl
  have hbC := get_bt C
  have hC1 : bt C 1 = (q.toNat : Int) := by rw [← hC]; rfl
  have HCA : Hid (∀ (i : Nat) (h : i < C.size), (C[i]'h).toNat < 128) := fun i h => by
    subst hC
    rcases (by have : (⟨#[60, q]⟩ : ByteArray).size = 2 := rfl; omega : i = 0 ∨ i = 1) with rfl | rfl
    · exact (by decide : (60 : UInt8).toNat < 128)
    · exact hq
  have hCx : C.extract 2 2 = ⟨#[]⟩ := by apply ByteArray.ext; apply Array.ext'; rw [Lib.extract_data]; simp
  rw [hC]
  clear hC
  by_cases hr : r = 65533
  · subst hr
    go_enter Tryz.func92, Tryz.ntmps92
    go_wp2_with fail
    go_loopg [] C.size (fun gg wr => ∃ i : Nat, i + gg = C.size ∧ wr = w.iter C i)
    case atStart => exact ⟨0, by omega, rfl⟩
    case round =>
      obtain ⟨i, hig, rfl⟩ := hrel
      by_cases hi : i < C.size
      · have hnx := fun ty => run_next_ascii (P := Tryz.prog) w C i ty hi (HCA.out i hi)
        obtain ⟨x, hx⟩ : ∃ x : UInt8, C[i]'hi = x := ⟨_, rfl⟩
        have hx2 := HCA.out i hi
        rw [hx] at hnx hx2
        clear hx
        obtain ⟨g, rfl⟩ : ∃ g, gk = g + 1 := ⟨gk - 1, by omega⟩
        go_wp2_with fail
        go_roundg g
        case measure => omega
        case rel => exact ⟨i + 1, by omega, rfl⟩
      · obtain rfl : i = C.size := by omega
        have hnx := fun ty => run_next_end (P := Tryz.prog) w C C.size ty (Nat.lt_irrefl _)
        go_wp2_with fail
        go_ret
        exact ⟨rfl, below_alloc (Below.refl _ _) (Nat.le_refl _) _⟩
  · have HV := Lib.hid (fun W => Tryz.utf8_ValidRune r W)
    obtain ⟨v, hv⟩ : ∃ v, Lib.validRune r = v := ⟨_, rfl⟩
    rw [hv] at HV
    have hrb : (r == 65533) = false := beq_eq_false_iff_ne.2 hr
    cases v with
    | false =>
      go_enter Tryz.func92, Tryz.ntmps92
      go_wp2_with fail
      refine (HV.out _).mono ?_
      rintro e W ⟨rfl, rfl⟩
      go_wp2_with fail
      go_ret
      exact ⟨rfl, Below.refl _ _⟩
    | true =>
      have hvalid : Utf8.valid r = true := by rw [← hv]; exact (Go.validRune_eq r).trans rfl
      obtain ⟨e1, e2, e3⟩ := Go.encode_facts r hvalid h0
      obtain ⟨E, hE⟩ : ∃ E, Utf8.encode r = E := ⟨_, rfl⟩
      have hcv : ∀ W, (convert 21 9 (.int .i32 r)).run Tryz.prog W = .ok (.string E) W := fun W => by
        rw [← hE]
        exact run_convert_int_string W _ _ _ _ (by kernel_rfl) Tryz.underlying9
      have HCV := Lib.hid hcv
      rw [hE] at e1 e2 e3
      have hbE := get_bt E
      have HL : Hid (128 ≤ bt E (E.size - 1)) := by
        show _ ≤ _
        rw [← hbE (E.size - 1) (by omega)]; have := e3 (by omega); omega
      clear hE e3 hv hvalid hcv
      go_enter Tryz.func92, Tryz.ntmps92
      go_wp2_with fail
      refine (HV.out _).mono ?_
      rintro e W ⟨rfl, rfl⟩
      go_wp2_with fail
      go_step3
      go_wp2_with (refine wpList_convert_known (by rfl) 21 9 _ (by rfl) (.int .i32 r) (.string E) (by rfl) (HCV.out _) ?_)
      obtain ⟨n1, hn1⟩ : ∃ n1 : Int, (E.size : Int) - 1 = n1 := ⟨_, rfl⟩
      rw [hn1]
      have HN1 : Hid ((E.size : Int) - 1 = n1) := hn1
      clear hn1
      go_loopg [9, 10] 0 (fun gg s9 s10 wr => s9 = .int .i64 n1 ∧ s10 = .int .i64 0 ∧ wr = W)
      case atStart => exact ⟨by rfl, rfl, rfl⟩
      case round =>
        obtain ⟨rfl, rfl, rfl⟩ := hrel
        by_cases hk : E.size = 2
        · obtain rfl : n1 = 1 := by have := HN1.out; omega
          have hlt : (1 : Int) < (C.size : Int) := by have := HCS.out; omega
          have hne : (bt C 1 != bt E 1) = true := by
            rw [hC1, bne_iff_ne]
            have := HL.out
            rw [hk] at this
            simp only [Nat.reduceSub] at this
            omega
          have hCx2 : C.extract 2 C.size = ⟨#[]⟩ := by rw [HCS.out]; exact hCx
          have HI : Hid (∀ c W, Calls Tryz.prog 28 #[.string ⟨#[]⟩, .int .u8 c] W fun e w' => e = .returned (.int .i64 (-1)) ∧ w' = W) := fun c W => Tryz.strings_IndexByte ⟨#[]⟩ c W
          have hlen : (2 : Int) ≤ (C.size : Int) := by omega
          have hw1 : IntKind.i64.wrap ((1 : Int) + 1) = 2 := by decide
          have hw2 : IntKind.i64.wrap (2 : Int) = 2 := by decide
          go_upto_region 6 with (fail)
          go_step3
          go_upto_region 6 with (fail)
          go_quiet (fail)
          have HWQ := Lib.hid (bel_drewN (Below.refl wr.heap.size wr) nq)
          generalize wr.drewN nq = wq at *
          go_upto_region 7 with (fail)
          go_quiet ((go_at_call 28; exact Calls.quiet_of_same (HI.out _ _)))
          go_wp2_with fail
          rw [Exit.noGoto_ret]
          go_wp2_with fail
          rw [Exit.noGoto_ret]
          go_ret
          exact ⟨rfl, bel_drewN HWQ.out _⟩
        · have hge : (C.size : Int) ≤ n1 := by have := HCS.out; have := HN1.out; omega
          go_wp2_with fail
          rw [Exit.noGoto_ret]
          go_ret
          exact ⟨rfl, Below.refl _ _⟩

/-- strings.IndexAny at two ASCII bytes -/
theorem indexAny_short (q : UInt8) (hq : q.toNat < 128) (s : ByteArray) (h8 : s.size ≤ 8) (w : World) :
    Calls Tryz.prog 74 #[.string s, .string ⟨#[60, q]⟩] w fun e w' => e = .returned (.int .i64 (Lib.indexAny s.data.toList [60, q])) ∧ Below w.heap.size w w' := by
  have HIR := Lib.hid (fun r h0 h1 W => indexRune_no q hq r h0 h1 W)
  have HRA := Lib.hid (fun r h0 h1 W => Tryz.strings_IndexRune_ascii ⟨#[60, q]⟩ r W h0 h1)
  have HCON := Lib.hid (fun x => Lib.contains_iff_indexByte [60, q] x)
  have HSA := Lib.hid (fun W => Tryz.strings_shouldUseASCIISet s.size W)
  have h8z : decide ((8 : Int) < (s.size : Int)) = false := decide_eq_false (by omega)
  rw [h8z] at HSA
  obtain ⟨C, hC⟩ : ∃ C : ByteArray, (⟨#[60, q]⟩ : ByteArray) = C := ⟨_, rfl⟩
  have hCs : C.size = 2 := by rw [← hC]; rfl
  have hCe : (C == ⟨#[]⟩) = false := by rw [← hC]; rfl
  have hCe2 : C.toList.isEmpty = false := by
    rw [Lib.toList_data, ← hC]; rfl
  have HCL : Hid (C.data.toList = [60, q]) := by show _ = _; rw [← hC]
  rw [hC] at HIR HRA ⊢
  clear hC h8z
  go_enter Tryz.func74, Tryz.ntmps74
  go_wp2_with fail
  refine (HSA.out _).mono ?_
  rintro e W ⟨rfl, rfl⟩
  go_wp2_with fail
  go_loopg [9, 10] s.size (fun gg _ _ wr => ∃ i : Nat, i ≤ s.size ∧ s.size - i ≤ gg ∧ Hid (wr.heap[W.heap.size]? = some (.stringIter s i)) ∧ Hid (Below W.heap.size W wr) ∧ Hid (Lib.NoAny s.data.toList [60, q] i))
  case atStart => exact ⟨0, Nat.zero_le _, by omega, World.iter_heap W s 0, (Below.refl _ W).alloc (Nat.le_refl _) _, Lib.NoAny.zero _ _⟩
  case round =>
    obtain ⟨i, hi, hg, HIT, HB, HN⟩ := hrel
    by_cases hlt : i < s.size
    · have hnx : ∀ ty, (Instr.next (.pointer (some ⟨W.heap.size, 0, none⟩)) true ty).run Tryz.prog wr = _ := fun ty => Lib.run_next_any_at wr W.heap.size s i ty HIT.out hlt
      have HWD := Lib.hid (Lib.width_pos s i)
      have HDL := Lib.hid (decodeL_drop s i)
      have HLE := Lib.hid (Lib.rune_le s i)
      have HLL := Lib.hid (decodeL_le (s.data.toList.drop i) (fun e => by have := xt_nil e; omega))
      obtain ⟨x, hx1, hx2⟩ := xt_at hlt
      have HX := Lib.hid hx1
      clear hx1 hx2
      obtain ⟨R, hR⟩ : ∃ R, (Utf8.decode s i).1 = R := ⟨_, rfl⟩
      obtain ⟨K, hK⟩ : ∃ K, (Utf8.decode s i).2 = K := ⟨_, rfl⟩
      rw [hR, hK] at hnx
      have HRK : Hid (decodeL (s.data.toList.drop i) = (R, K)) := by show _ = _; rw [HDL.out, ← hR, ← hK]
      rw [hK] at HWD
      rw [hR] at HLE
      have HIT2 := Lib.hid (Lib.iterAt_heap wr W.heap.size s i (i + K) HIT.out)
      have HB2 := Lib.hid (Lib.below_iterAt HB.out (k := W.heap.size) (Nat.le_refl _) s (i + K))
      obtain ⟨W2, hW2⟩ : ∃ W2, wr.iterAt W.heap.size s (i + K) = W2 := ⟨_, rfl⟩
      rw [hW2] at hnx HIT2 HB2
      have HKS : Hid (i + K ≤ s.size) := by
        show _ ≤ _
        have := HLL.out
        rw [HRK.out, List.length_drop, Array.length_toList] at this
        simp only at this
        have h2 : s.data.size = s.size := rfl
        omega
      clear hR hK hW2 HDL HLL
      by_cases hx : x.toNat < 128
      · have HRX : Hid (R = x.toNat ∧ K = 1) := by
          show _ ∧ _
          have := HRK.out
          rw [HX.out, decodeL_ascii x _ hx] at this
          injection this with e1 e2
          exact ⟨e1.symm, e2.symm⟩
        have HI : Hid (Calls Tryz.prog 92 #[.string C, .int .i32 (R : Int)] W2 fun e w' => e = .returned (.int .i64 (Lib.indexByte [60, q] x)) ∧ w' = W2) := by
          have h2 := HRA.out (R : Int) (by omega) (by have := HRX.out.1; omega) W2
          have h3 : ((R : Int)).toNat.toUInt8 = x := by rw [HRX.out.1]; simp
          rw [h3, HCL.out] at h2
          exact h2
        have hcon := HCON.out x
        obtain ⟨ix, hix⟩ : ∃ ix, Lib.indexByte [60, q] x = ix := ⟨_, rfl⟩
        rw [hix] at hcon HI
        have HX2 : Hid (s.data.toList[i]? = some x) := by
          show _ = _
          have : (s.data.toList.drop i)[0]? = some x := by rw [HX.out]; rfl
          rwa [List.getElem?_drop, Nat.add_zero] at this
        clear hix
        cases hin : [60, q].contains x with
        | false =>
          rw [hin] at hcon
          have hlt0 : ¬ ((0 : Int) ≤ ix) := of_decide_eq_false hcon.symm
          clear hcon
          go_wp2_with fail
          refine (HI.out).mono ?_
          rintro e W3 ⟨rfl, rfl⟩
          go_wp2_with fail
          go_roundg (s.size - (i + K))
          case measure => have := HWD.out; omega
          case rel => exact ⟨i + K, HKS.out, Nat.le_refl _, HIT2, HB2, by have h2 := HRX.out.2; subst h2; exact HN.out.succ HX2.out hin⟩
        | true =>
          rw [hin] at hcon
          have hge0 : ((0 : Int) ≤ ix) := of_decide_eq_true hcon.symm
          clear hcon
          go_wp2_with fail
          refine (HI.out).mono ?_
          rintro e W3 ⟨rfl, rfl⟩
          go_wp2_with fail
          go_ret
          exact ⟨by rw [Lib.indexAny_hit HN.out HX2.out hin]; rfl, HB2.out⟩
      · have hxg : ∀ j, j < K → 128 ≤ ((s.data.toList.drop i).getD j 0).toNat := fun j hj => decode_noAscii (l := s.data.toList.drop i) (by rw [HX.out]; exact hx) j (by rw [HRK.out]; exact hj)
        have HXG := Lib.hid hxg
        have HR128 : Hid (128 ≤ R) := by
          show _ ≤ _
          have h2 := decode_high s i hlt (by have := HX.out; rw [List.drop_eq_getElem_cons (by rw [Array.length_toList]; exact hlt)] at this; injection this with e1 _; rw [Array.getElem_toList] at e1; show 128 ≤ (s.data[i]'hlt).toNat; rw [e1]; omega)
          have h3 := decodeL_drop s i
          rw [HRK.out] at h3
          rw [← h3] at h2
          exact h2.1
        have HI := Lib.hid (HIR.out (R : Int) (by have := HR128.out; omega) (by have := HLE.out; omega) W2)
        clear hxg
        go_wp2_with fail
        refine (HI.out).mono ?_
        rintro e W3 ⟨rfl, hb3⟩
        have HB3 := Lib.hid hb3
        clear hb3
        go_wp2_with fail
        go_roundg (s.size - (i + K))
        case measure => have := HWD.out; omega
        case rel =>
          refine ⟨i + K, HKS.out, Nat.le_refl _, (HB3.out.block _ (Array.getElem?_eq_some_iff.1 HIT2.out).1).trans HIT2.out, HB2.out.trans (HB3.out.mono HB2.out.size), ?_⟩
          intro j b hj hb
          by_cases hji : j < i
          · exact HN.out j b hji hb
          · have h4 := HXG.out (j - i) (by omega)
            have h5 : (s.data.toList.drop i).getD (j - i) 0 = b := by
              rw [List.getD_eq_getElem?_getD, List.getElem?_drop, show i + (j - i) = j from by omega, hb]; rfl
            rw [h5] at h4
            simp only [List.contains_cons, List.contains_nil, Bool.or_false, Bool.or_eq_false_iff, beq_eq_false_iff_ne]
            refine ⟨fun e => ?_, fun e => ?_⟩
            · subst e; exact absurd h4 (by decide)
            · subst e; omega
    · obtain rfl : i = s.size := by omega
      have hnx : ∀ ty, (Instr.next (.pointer (some ⟨W.heap.size, 0, none⟩)) true ty).run Tryz.prog wr = _ := fun ty => Lib.run_next_end_at wr W.heap.size s s.size ty HIT.out hlt
      go_wp2_with fail
      go_ret
      exact ⟨by rw [Lib.indexAny_none (by rw [Array.length_toList]; exact HN.out)]; rfl, HB.out⟩
/-- .. and at any text -/
theorem indexAny_two (q : UInt8) (hq : q.toNat < 128) (s : ByteArray) (hs : s.size ≤ 8000) (w : World) :
    Calls Tryz.prog 74 #[.string s, .string ⟨#[60, q]⟩] w fun e w' => e = .returned (.int .i64 (Lib.indexAny s.data.toList [60, q])) ∧ Below w.heap.size w w' := by
  by_cases h8 : s.size ≤ 8
  · exact indexAny_short q hq s h8 w
  · refine (Tryz.strings_IndexAny_long (fun w => by kernel_rfl) s ⟨#[60, q]⟩ w (by exact Nat.le_refl 2) (by omega) (by omega) (by exact (by decide : 2 < 4294967281)) (fun j b hb => ?_)).mono ?_
    · match j with
      | 0 => simp at hb; subst hb; decide
      | 1 => simp at hb; subst hb; exact hq
      | j + 2 => simp at hb
    · rintro e w' ⟨rfl, rfl⟩
      exact ⟨rfl, below_alloc (below_alloc (Below.refl _ _) (Nat.le_refl _) _) (Nat.le_refl _) _⟩
end Go.Proofs.YtgmgghbocidibaaGreatDoor
