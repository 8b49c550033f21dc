/-
  LISTING: the iterator of entries.
-/
import Derived.Test.YtgklbmcnpnmkkaaDoorLsIterP
namespace Go.Proofs.YtgklbmcnpnmkkaaDoor
open Go.RowKit

set_option maxRecDepth 100000 in
theorem index_empty0 (s : ByteArray) (w : World) : Calls Tryd.prog 73 #[.string s, .string ⟨#[]⟩] w fun e w' => e = .returned (.int .i64 0) ∧ w' = w := by
  go_enter Tryd.func73, Tryd.ntmps73
  go_wp2_with fail
  go_ret
  exact ⟨rfl, rfl⟩
theorem index_empty (s : ByteArray) (w : World) : Calls Tryd.prog 58 #[.string s, .string ⟨#[]⟩] w fun e w' => e = .returned (.int .i64 0) ∧ w' = w := by
  go_enter Tryd.func58, Tryd.ntmps58
  go_wp2_with fail
  refine (index_empty0 s w).mono ?_
  rintro e w' ⟨rfl, rfl⟩
  go_wp2_with fail
  go_ret
  exact ⟨rfl, rfl⟩
theorem index_any {s delim : List UInt8} {w : World} {m0 : Int} (h : delim = [] ∨ s.length < 4294967281) (hm : w.cell? ⟨0, 0, none⟩ = some (.int .i64 m0)) :
    Calls Tryd.prog 58 #[.string ⟨s.toArray⟩, .string ⟨delim.toArray⟩] w fun e w' => e = .returned (.int .i64 (Lib.index s delim)) ∧ w' = w := by
  rcases h with rfl | h
  · refine (index_empty ⟨s.toArray⟩ w).mono ?_
    rintro e w' ⟨rfl, rfl⟩
    refine ⟨?_, rfl⟩
    congr 2
    cases s <;> simp [Lib.index]
  · exact Tryd.strings_Index _ _ m0 _ (by simp only [ByteArray.size, List.size_toArray]; omega) hm

/-- the boxes that the iterator has captured: the rows, the prefix, the delimiter, the view -/
structure Capt (w : World) (b0 : Nat) (vl : Value) (pre delim : List UInt8) (ft : Nat) : Prop where
  cl : w.cell? ⟨b0, 0, none⟩ = some vl
  cp : w.cell? ⟨b0 + 1, 0, none⟩ = some (.string ⟨pre.toArray⟩)
  cd : w.cell? ⟨b0 + 2, 0, none⟩ = some (.string ⟨delim.toArray⟩)
  ct : w.cell? ⟨b0 + 3, 0, none⟩ = some (.func (.func ft) #[] #[])
/-- what is read behind a round -/
def Still (n0 b0 : Nat) (W A : World) : Prop := W.heap.size ≤ A.heap.size ∧ ∀ b, b < n0 ∨ (b0 ≤ b ∧ b ≤ b0 + 3) → b < W.heap.size → A.heap[b]? = W.heap[b]?
theorem Still.refl (n0 b0 : Nat) (W : World) : Still n0 b0 W W := ⟨Nat.le_refl _, fun _ _ _ => rfl⟩
theorem Still.trans {n0 b0 : Nat} {A B C : World} (h : Still n0 b0 A B) (k : Still n0 b0 B C) : Still n0 b0 A C :=
  ⟨Nat.le_trans h.1 k.1, fun b hb hl => (k.2 b hb (Nat.lt_of_lt_of_le hl h.1)).trans (h.2 b hb hl)⟩
theorem Still.of_below {n0 b0 : Nat} {A B : World} (h : Below A.heap.size A B) : Still n0 b0 A B := ⟨h.size, fun b _ hl => h.block b hl⟩
theorem Still.cell {n0 b0 : Nat} {A B : World} (h : Still n0 b0 A B) {b : Nat} (hb : b < n0 ∨ (b0 ≤ b ∧ b ≤ b0 + 3)) {o : Nat} {u : Value} (hu : A.cell? ⟨b, o, none⟩ = some u) : B.cell? ⟨b, o, none⟩ = some u := by
  rw [World.cell?_of_block (w := A) (h.2 b hb (World.block_lt_of_cell? A _ hu))]; exact hu
theorem Capt.still {n0 b0 : Nat} {A B : World} {vl : Value} {pre delim : List UInt8} {ft : Nat} (h : Capt A b0 vl pre delim ft) (hs : Still n0 b0 A B) : Capt B b0 vl pre delim ft :=
  ⟨hs.cell (.inr (by omega)) h.cl, hs.cell (.inr (by omega)) h.cp, hs.cell (.inr (by omega)) h.cd, hs.cell (.inr (by omega)) h.ct⟩

/-- what is told of a value that comes -/
def GVal (A : World) (D : Nat) (x : RowD) (v : Value) : Prop := ∃ p : RowV, p.d = x ∧ v = .agg p.cells.toArray ∧ RowOwn A (D + 1) p ∧ x.key.length ≤ 140737488355328

/-- between two rounds -/
structure IterAt (n0 b0 D : Nat) (W wr : World) (J : Nat → List RowD → World → Prop) (k : Kind) (pre delim : List UInt8) (rows : List RowD) (i : Nat) (told : List RowD) (q : RowV) : Prop where
  st : Still n0 b0 W wr
  last : wr.heap[D]? = some (.cells q.cells.toArray 36 (0, 0))
  j : J D told wr
  eq : told ++ ents k pre delim q.d (rows.drop i) = ents k pre delim rowZ rows

def IterOut (W : World) (J Jx : Nat → List RowD → World → Prop) (xs : List RowD) (e : Ending) (B : World) : Prop := e = .returned (.tuple #[]) ∧ ∃ D, W.heap.size ≤ D ∧ (J D xs B ∨ ∃ pre, pre <+: xs ∧ Jx D pre B)
/-- a row lies at an offset -/
theorem range_of {w : World} {b o : Nat} {cs : List Value} (h : ∀ j u, cs[j]? = some u → w.cell? ⟨b, o + j, none⟩ = some u) : w.rangeAt b o cs := h

set_option maxHeartbeats 16000000 in
set_option maxRecDepth 100000 in
theorem iter_any (k : Kind) {W : World} {n0 b0 : Nat} {a : Option Addr} {c : Nat} {pre delim : List UInt8} {ft fs : Nat} {va : Value} {ps : List RowV} {m0 : Int} (hV : ViewIs k ft fs va) (hC : Capt W b0 (.slice a ps.length c) pre delim ft)
    (hR : ∀ A, Still n0 b0 W A → RowsIn A (.slice a ps.length c) ps ∧ A.cell? ⟨0, 0, none⟩ = some (.int .i64 m0))
    (hS : ∀ p ∈ ps, SizeOK p.d) (hX : ∀ p ∈ ps, p.d.key.length ≤ 140737488355328 ∧ (delim = [] ∨ p.d.key.length < 4294967281)) (hlen : ps.length ≤ 140737488351232) (hn0 : n0 ≤ W.heap.size) (_hp0 : pre.length ≤ 140737488355328) (hd0 : delim.length ≤ 140737488355328)
    (l : Nat) (J Jx : Nat → List RowD → World → Prop) (Kp : Nat → World → World → Prop) (hKp : ∀ D A B, W.heap.size ≤ D → D < A.heap.size → Kp D A B → Still n0 b0 A B ∧ B.heap[D]? = A.heap[D]?)
    (hJ : ∀ D s A B row, W.heap.size ≤ D → J D s A → A.grownBy B row → (∀ r, row = some r → r = D) → J D s B)
    (hJ0 : ∀ D, W.heap.size ≤ D → J D [] W)
    (hY : ∀ m D told x v A, W.heap.size ≤ D → D < A.heap.size → GVal A D x v → J D told A → told ++ [x] <+: ents k pre delim rowZ (ps.map RowV.d) →
      YieldAt Fence.wide m Tryd.prog l #[v] A fun e B => (e = .returned (.bool true) ∧ J D (told ++ [x]) B ∧ Kp D A B) ∨ (e = .returned (.bool false) ∧ Jx D (told ++ [x]) B)) :
    Calls Tryd.prog 56 #[.func (.yield l) #[] #[], .pointer (some ⟨b0, 0, none⟩), .pointer (some ⟨b0 + 1, 0, none⟩), .pointer (some ⟨b0 + 3, 0, none⟩), .pointer (some ⟨b0 + 2, 0, none⟩)] W
      (IterOut W J Jx (ents k pre delim rowZ (ps.map RowV.d))) := by
  have hb0 : b0 + 3 < W.heap.size := World.block_lt_of_cell? W _ hC.ct
  have HV := Lib.hid hV
  have HC : Hid (∀ A, Still n0 b0 W A → Capt A b0 (.slice a ps.length c) pre delim ft) := fun A hA => hC.still hA
  have HR := Lib.hid hR
  have HS := Lib.hid hS
  have HX := Lib.hid hX
  have HKp := Lib.hid hKp
  have HJ := Lib.hid hJ
  have HJ0 := Lib.hid hJ0
  have HY := Lib.hid hY
  have cl0 := hC.cl
  clear hV hC hR hS hX hKp hJ hJ0 hY
  go_enter Tryd.func56, Tryd.ntmps56
  go_wp2_with (refine wpList_store_row (by rfl) 36 _ _ (by rfl) W.heap.size rowZC (by rfl) (by rfl) 36 rowZC (by exact heap_alloc_new _ _) (by kernel_rfl) (by rfl) (by kernel_rfl) ?_; rw [setRow_alloc _ _ _ _ _ rfl]; have cl1 := cell_past (.cells rowZC 36) cl0)
  have b1 : Below W.heap.size W (W.alloc (.cells rowZC 36)) := below_alloc (Below.refl _ _) (Nat.le_refl _) _
  go_loopg [16] ps.length (fun gg s16 wr => ∃ (i : Nat) (told : List RowD) (q : RowV), i ≤ ps.length ∧ ps.length - i ≤ gg ∧ s16 = .int .i64 i ∧ Hid (IterAt n0 b0 W.heap.size W wr J k pre delim (ps.map RowV.d) i told q))
  case atStart =>
    refine ⟨0, [], ⟨rowZ, .slice none 0 0, .slice none 0 0⟩, Nat.zero_le _, by omega, rfl, Still.of_below b1, heap_alloc_new _ _, HJ.out _ _ _ _ none (Nat.le_refl _) (HJ0.out _ (Nat.le_refl _)) ⟨b1.os, b1.tape, b1.output, b1.size, fun k hk _ => b1.block k hk⟩ (fun r hr => by cases hr), rfl⟩
  case round =>
    obtain ⟨i, told, q, hin, hg, rfl, IA⟩ := hrel
    by_cases hlt : i < ps.length
    · have hltz : (i : Int) < (ps.length : Int) := by omega
      obtain ⟨p, hip⟩ : ∃ p, ps[i]? = some p := ⟨_, List.getElem?_eq_getElem hlt⟩
      obtain ⟨b, off, rfl, hcell, hrow⟩ := (HR.out wr IA.out.st).1.at hip
      have hmem := List.mem_of_getElem? hip
      have hdrop : Hid ((ps.map RowV.d).drop i = p.d :: (ps.map RowV.d).drop (i + 1)) := by
        show _ = _
        rw [List.drop_eq_getElem_cons (by simpa using hlt)]
        congr 1
        have := List.getElem?_eq_some_iff.1 hip
        simp [this.2]
      have HENT := Lib.hid (entCase k pre delim p.d)
      have HPD := Lib.hid (And.intro hrow (HS.out p hmem))
      have hkl := (HX.out p hmem).1
      have HKX := Lib.hid (HX.out p hmem).2
      obtain ⟨pc, hpc⟩ : ∃ pc : Array Value, p.cells.toArray = pc := ⟨_, rfl⟩
      have HPC := Lib.hid hpc
      have hps : Hid (pc.size = 18) := by show _ = _; rw [← hpc]; rfl
      have hpl : Hid (p.cells.length = 18) := rfl
      have hpo : Hid ((pc.all fun x => x.oneCell') = true) := by show _ = _; rw [← hpc]; exact hrow.ones
      have hk0 : Hid (pc[0]? = some (.string ⟨p.d.key.toArray⟩)) := by show _ = _; rw [← hpc]; rfl
      have hk1 : Hid (pc[1]? = some (.bool p.d.common)) := by show _ = _; rw [← hpc]; rfl
      have HCELL : Hid (wr.rangeAt b (off + i * 18) p.cells) := hcell
      have P3 : Hid ((fun A : World => A.heap[wr.heap.size]? = some (.cells pc 36 (0, 0)) ∧ A.heap.size = wr.heap.size + 1 ∧ Below wr.heap.size wr A) ((wr.alloc (.cells rowZC 36)).setRow wr.heap.size pc)) := by
        rw [setRow_alloc _ _ _ _ _ rfl]
        exact ⟨heap_alloc_new _ _, by simp, below_alloc (Below.refl _ _) (Nat.le_refl _) _⟩
      clear hcell hrow hmem hpc
      go_wp2_with (first
        | (refine wpList_load_mid (by rfl) 36 _ (by rfl) b (off + i * 18) (by rfl) p.cells _ (by exact HCELL.out) Tryd.underlying36 rfl (by rw [hpl.out]; kernel_rfl) ?_; rw [HPC.out])
        | (refine wpList_store_rowN (by rfl) 36 _ _ (by rfl) wr.heap.size pc (by rfl) (by rfl) 36 rowZC (by exact heap_alloc_new _ _) (by rw [hps.out]; kernel_rfl) (by rw [hps.out]; rfl) (by exact hpo.out) (fun A : World => A.heap[wr.heap.size]? = some (.cells pc 36 (0, 0)) ∧ A.heap.size = wr.heap.size + 1 ∧ Below wr.heap.size wr A) (by exact P3.out) ?_
           clear P3
           rintro w3 ⟨h3, z3, b3⟩
           have H3 := Lib.hid h3
           have B3 := Lib.hid b3
           have c30 : w3.cell? ⟨wr.heap.size, 0, none⟩ = some (.string ⟨p.d.key.toArray⟩) := (cell_of_heap h3).trans hk0.out
           have c31 : w3.cell? ⟨wr.heap.size, 1, none⟩ = some (.bool p.d.common) := (cell_of_heap h3).trans hk1.out
           have S3 := Lib.hid (IA.out.st.trans (Still.of_below b3))
           have c3p := (HC.out _ S3.out).cp
           clear h3 b3))
      refine (Tryd.strings_CutPrefix _ _ _).mono ?_
      rintro e w4 ⟨rfl, rfl⟩
      cases HENT.out with
      | no hpre he =>
          have HE := Lib.hid he
          clear he HENT
          rw [hpre]
          go_wp2_with fail
          go_roundg (ps.length - (i + 1))
          case measure => omega
          case rel =>
            refine ⟨i + 1, told, q, by omega, Nat.le_refl _, by go_num, S3.out, (B3.out.block _ (Array.getElem?_eq_some_iff.1 IA.out.last).1).trans IA.out.last, HJ.out _ _ _ _ none (Nat.le_refl _) IA.out.j ⟨B3.out.os, B3.out.tape, B3.out.output, B3.out.size, fun k hk _ => B3.out.block k hk⟩ (fun r hr => by cases hr), ?_⟩
            have := IA.out.eq
            rw [hdrop.out, ents_none HE.out] at this
            exact this
      | com hpre hcm he =>
          have HE := Lib.hid he
          clear he HENT
          rw [hpre]
          rw [hcm] at c31
          go_wp2_with fail
          go_roundg (ps.length - (i + 1))
          case measure => omega
          case rel =>
            refine ⟨i + 1, told, q, by omega, Nat.le_refl _, by go_num, S3.out, (B3.out.block _ (Array.getElem?_eq_some_iff.1 IA.out.last).1).trans IA.out.last, HJ.out _ _ _ _ none (Nat.le_refl _) IA.out.j ⟨B3.out.os, B3.out.tape, B3.out.output, B3.out.size, fun k hk _ => B3.out.block k hk⟩ (fun r hr => by cases hr), ?_⟩
            have := IA.out.eq
            rw [hdrop.out, ents_none HE.out] at this
            exact this
      | plain hpre hcm hd he =>
          have HE := Lib.hid he
          clear he HENT
          rw [hpre]
          rw [hcm] at c31
          have c3t := (HC.out _ S3.out).ct
          have c3d := (HC.out _ S3.out).cd
          obtain ⟨fnT, hfT, hnT, hbT⟩ := HV.out.gt
          have HT : Hid (Calls Tryd.prog ft #[.agg pc] w4 (TellOut k p w4)) := by
            have := HV.out.tell p w4 (HPD.out.1.later B3.out) HPD.out.2
            rw [HPC.out] at this
            exact this
          have HFT := Lib.hid hfT
          clear hfT HPD HPC hk0 hk1
          go_wp2_with (first
            | (refine wpList_load_row (by rfl) 36 _ (by rfl) wr.heap.size (by rfl) 36 pc (0, 0) _ (by exact H3.out) Tryd.underlying36 rfl (by rw [hps.out]; kernel_rfl) ?_
               refine wpList_call_val (by rfl) HFT.out hnT hbT (xs := [.tmp 35]) (vs := [.agg pc]) (by rfl) (by rfl) (by exact HT.out) (by rfl) ?_
               clear HT
               rintro e w5 ⟨q5, rfl, hq5, ho5, b5⟩
               refine ⟨_, rfl, ?_⟩
               have B5 := Lib.hid (B3.out.trans (b5.mono (by omega)))
               have HO5 := Lib.hid ho5
               have HQ5 := Lib.hid hq5
               obtain ⟨qc, hqc⟩ : ∃ qc : Array Value, q5.cells.toArray = qc := ⟨_, rfl⟩
               have HQC := Lib.hid hqc
               have hqs : Hid (qc.size = 18) := by show _ = _; rw [← hqc]; rfl
               have hqo : Hid ((qc.all fun x => x.oneCell') = true) := by show _ = _; rw [← hqc]; exact ho5.ones
               have z5 := b5.size
               have P6 : Hid ((fun A : World => A.heap[w5.heap.size]? = some (.cells qc 36 (0, 0)) ∧ A.heap.size = w5.heap.size + 1 ∧ Below w5.heap.size w5 A) ((w5.alloc (.cells rowZC 36)).setRow w5.heap.size qc)) := by
                 rw [setRow_alloc _ _ _ _ _ rfl]
                 exact ⟨heap_alloc_new _ _, by simp, below_alloc (Below.refl _ _) (Nat.le_refl _) _⟩
               rw [hqc]
               clear ho5 hq5 b5 hqc c30 c31 c3p c3t c3d H3)
            | (refine wpList_store_rowN (by rfl) 36 _ _ (by rfl) w5.heap.size qc (by rfl) (by rfl) 36 rowZC (by exact heap_alloc_new _ _) (by rw [hqs.out]; kernel_rfl) (by rw [hqs.out]; rfl) (by exact hqo.out) (fun A : World => A.heap[w5.heap.size]? = some (.cells qc 36 (0, 0)) ∧ A.heap.size = w5.heap.size + 1 ∧ Below w5.heap.size w5 A) (by exact P6.out) ?_
               clear P6
               rintro w6 ⟨h6, z6, b6⟩
               have H6 := Lib.hid h6
               have B6 := Lib.hid (B5.out.trans (b6.mono (by omega)))
               have S6 := Lib.hid (IA.out.st.trans (Still.of_below B6.out))
               have HO6 := Lib.hid (HO5.out.later b6)
               have c6d := (HC.out _ S6.out).cd
               clear h6 b6 S3 B3 B5 HO5))
          refine (index_any (m0 := m0) (HKX.out.imp id fun hkx => Nat.lt_of_le_of_lt (trim_le p.d.key pre) hkx) (HR.out _ S6.out).2).mono ?_
          rintro e w7 ⟨rfl, rfl⟩
          simp only []
          by_cases hd0 : delim = []
          · subst hd0
            have LD6 : Hid (w7.heap[W.heap.size]? = some (.cells q.cells.toArray 36 (0, 0))) := (B6.out.block _ (Array.getElem?_eq_some_iff.1 IA.out.last).1).trans IA.out.last
            have hDlt := (Array.getElem?_eq_some_iff.1 IA.out.last).1
            have P8 : Hid ((fun A : World => A.heap[W.heap.size]? = some (.cells qc 36 (0, 0)) ∧ A.heap[w5.heap.size]? = some (.cells qc 36 (0, 0)) ∧ w7.grownBy A (some W.heap.size)) (w7.setRow W.heap.size qc)) :=
              ⟨setRow_heap _ _ _ _ _ _ LD6.out, (setRow_other _ _ _ _ (by omega)).trans H6.out, setRow_grown _ _ _⟩
            go_upto_region 12 with (first
              | (refine wpList_load_row (by rfl) 36 _ (by rfl) w5.heap.size (by rfl) 36 qc (0, 0) _ (by exact H6.out) Tryd.underlying36 rfl (by rw [hqs.out]; kernel_rfl) ?_)
              | (refine wpList_store_rowN (by rfl) 36 _ _ (by rfl) W.heap.size qc (by rfl) (by rfl) 36 q.cells.toArray (by exact LD6.out) (by rw [hqs.out]; kernel_rfl) (by rw [hqs.out]; rfl) (by exact hqo.out) (fun A : World => A.heap[W.heap.size]? = some (.cells qc 36 (0, 0)) ∧ A.heap[w5.heap.size]? = some (.cells qc 36 (0, 0)) ∧ w7.grownBy A (some W.heap.size)) (by exact P8.out) ?_
                 clear P8
                 rintro w8 ⟨h8, h8e, g8⟩
                 have H8 := Lib.hid h8
                 have H8e := Lib.hid h8e
                 have G8 := Lib.hid g8
                 have z8 := g8.size
                 clear h8 h8e g8))
            refine (wpIn_wide (n := 0)).1 (wpIn_region_lit ?_)
            refine listIn_op (by rfl) (by intro c h; cases h) (wp_moveL _ (by rfl) ?_)
            refine listIn_op (by rfl) (by intro c h; cases h) (wp_load_row 36 _ (by rfl) w5.heap.size (by rfl) 36 qc (0, 0) _ (by exact H8e.out) Tryd.underlying36 rfl (by rw [hqs.out]; kernel_rfl) ?_)
            have hgo : ∀ g, w4.heap.size ≤ g → g < w7.heap.size → w8.heap[g]? = w7.heap[g]? := fun g h1 h2 => G8.out.block g h2 (fun e => by injection e with e; omega)
            have HO8 : Hid (RowOwn w8 (W.heap.size + 1) q5) := RowOwn.base (base := w4.heap.size) (HO6.out.kept fun g hg hlt => hgo g (by rcases hg with hg | hg; exact (HO6.out.blobs.lt g hg).1; exact (HO6.out.parts.lt g hg).1) hlt) (by omega)
            have hent : ents k pre [] q.d ((ps.map RowV.d).drop i) = q5.d :: ents k pre [] q5.d ((ps.map RowV.d).drop (i + 1)) := by
              rw [hdrop.out, HQ5.out]
              exact ents_new HE.out (by rw [told_common]; rfl)
            have heq := IA.out.eq
            rw [hent] at heq
            refine listIn_yield (v := .agg qc) (by rfl) (by rfl) (by rfl) (by rfl) (fun m => HY.out m W.heap.size told q5.d _ w8 (Nat.le_refl _) (by omega) ⟨q5, rfl, by rw [HQC.out], HO8.out, by rw [HQ5.out, told_key]; omega⟩
              (HJ.out _ _ _ _ _ (Nat.le_refl _) (HJ.out _ _ _ _ none (Nat.le_refl _) IA.out.j ⟨B6.out.os, B6.out.tape, B6.out.output, B6.out.size, fun k hk _ => B6.out.block k hk⟩ (fun r hr => by cases hr)) G8.out (fun r hr => by injection hr with hr; exact hr.symm)) ⟨ents k pre [] q5.d ((ps.map RowV.d).drop (i + 1)), by rw [← heq]; simp⟩) ?_
            rintro e w9 (⟨rfl, hj9, hk9⟩ | ⟨rfl, hjx⟩)
            · refine ⟨_, rfl, listIn_op (by rfl) (by intro c h; cases h) ?_⟩
              have HK9 := Lib.hid (HKp.out _ _ _ (Nat.le_refl _) (by omega) hk9)
              have HJ9 := Lib.hid hj9
              clear hj9 hk9
              unfold Oper.wp
              go_simp
              refine wpListIn_nil ?_
              simp only [Exit.then]
              go_wp2_with fail
              have hs8 : Still n0 b0 W w8 := S6.out.trans ⟨by omega, fun b hb hl => G8.out.block b hl (fun e => by injection e with e; omega)⟩
              go_roundg (ps.length - (i + 1))
              case measure => omega
              case rel => exact ⟨i + 1, told ++ [q5.d], q5, by omega, Nat.le_refl _, by go_num, hs8.trans HK9.out.1, by rw [HK9.out.2, HQC.out]; exact H8.out, HJ9.out, by rw [← heq]; simp⟩
            · refine ⟨_, rfl, listIn_op (by rfl) (by intro c h; cases h) ?_⟩
              have HJX := Lib.hid hjx
              clear hjx
              unfold Oper.wp
              go_simp
              refine wpListIn_nil ?_
              simp only [Exit.then]
              go_wp2_with fail
              refine bodyPost_ret (results_none rfl _ _ _) rfl ?_
              exact ⟨rfl, W.heap.size, Nat.le_refl _, .inr ⟨_, ⟨ents k pre [] q5.d ((ps.map RowV.d).drop (i + 1)), by rw [← heq]; simp⟩, HJX.out⟩⟩
          · obtain ⟨d0, dt, rfl⟩ : ∃ d0 dt, delim = d0 :: dt := by cases delim with
              | nil => exact absurd rfl hd0
              | cons d0 dt => exact ⟨d0, dt, rfl⟩
            have hneg : Lib.index (Lib.trimPrefix p.d.key pre) (d0 :: dt) < 0 := hd.resolve_left hd0
            generalize Lib.index (Lib.trimPrefix p.d.key pre) (d0 :: dt) = ix at hneg ⊢
            have hneg2 : ¬ 0 ≤ ix := by omega
            have LD6 : Hid (w7.heap[W.heap.size]? = some (.cells q.cells.toArray 36 (0, 0))) := (B6.out.block _ (Array.getElem?_eq_some_iff.1 IA.out.last).1).trans IA.out.last
            have hDlt := (Array.getElem?_eq_some_iff.1 IA.out.last).1
            have P8 : Hid ((fun A : World => A.heap[W.heap.size]? = some (.cells qc 36 (0, 0)) ∧ A.heap[w5.heap.size]? = some (.cells qc 36 (0, 0)) ∧ w7.grownBy A (some W.heap.size)) (w7.setRow W.heap.size qc)) :=
              ⟨setRow_heap _ _ _ _ _ _ LD6.out, (setRow_other _ _ _ _ (by omega)).trans H6.out, setRow_grown _ _ _⟩
            go_upto_region 12 with (first
              | (refine wpList_load_row (by rfl) 36 _ (by rfl) w5.heap.size (by rfl) 36 qc (0, 0) _ (by exact H6.out) Tryd.underlying36 rfl (by rw [hqs.out]; kernel_rfl) ?_)
              | (refine wpList_store_rowN (by rfl) 36 _ _ (by rfl) W.heap.size qc (by rfl) (by rfl) 36 q.cells.toArray (by exact LD6.out) (by rw [hqs.out]; kernel_rfl) (by rw [hqs.out]; rfl) (by exact hqo.out) (fun A : World => A.heap[W.heap.size]? = some (.cells qc 36 (0, 0)) ∧ A.heap[w5.heap.size]? = some (.cells qc 36 (0, 0)) ∧ w7.grownBy A (some W.heap.size)) (by exact P8.out) ?_
                 clear P8
                 rintro w8 ⟨h8, h8e, g8⟩
                 have H8 := Lib.hid h8
                 have H8e := Lib.hid h8e
                 have G8 := Lib.hid g8
                 have z8 := g8.size
                 clear h8 h8e g8))
            refine (wpIn_wide (n := 0)).1 (wpIn_region_lit ?_)
            refine listIn_op (by rfl) (by intro c h; cases h) (wp_moveL _ (by rfl) ?_)
            refine listIn_op (by rfl) (by intro c h; cases h) (wp_load_row 36 _ (by rfl) w5.heap.size (by rfl) 36 qc (0, 0) _ (by exact H8e.out) Tryd.underlying36 rfl (by rw [hqs.out]; kernel_rfl) ?_)
            have hgo : ∀ g, w4.heap.size ≤ g → g < w7.heap.size → w8.heap[g]? = w7.heap[g]? := fun g h1 h2 => G8.out.block g h2 (fun e => by injection e with e; omega)
            have HO8 : Hid (RowOwn w8 (W.heap.size + 1) q5) := RowOwn.base (base := w4.heap.size) (HO6.out.kept fun g hg hlt => hgo g (by rcases hg with hg | hg; exact (HO6.out.blobs.lt g hg).1; exact (HO6.out.parts.lt g hg).1) hlt) (by omega)
            have hent : ents k pre (d0 :: dt) q.d ((ps.map RowV.d).drop i) = q5.d :: ents k pre (d0 :: dt) q5.d ((ps.map RowV.d).drop (i + 1)) := by
              rw [hdrop.out, HQ5.out]
              exact ents_new HE.out (by rw [told_common]; rfl)
            have heq := IA.out.eq
            rw [hent] at heq
            refine listIn_yield (v := .agg qc) (by rfl) (by rfl) (by rfl) (by rfl) (fun m => HY.out m W.heap.size told q5.d _ w8 (Nat.le_refl _) (by omega) ⟨q5, rfl, by rw [HQC.out], HO8.out, by rw [HQ5.out, told_key]; omega⟩
              (HJ.out _ _ _ _ _ (Nat.le_refl _) (HJ.out _ _ _ _ none (Nat.le_refl _) IA.out.j ⟨B6.out.os, B6.out.tape, B6.out.output, B6.out.size, fun k hk _ => B6.out.block k hk⟩ (fun r hr => by cases hr)) G8.out (fun r hr => by injection hr with hr; exact hr.symm)) ⟨ents k pre (d0 :: dt) q5.d ((ps.map RowV.d).drop (i + 1)), by rw [← heq]; simp⟩) ?_
            rintro e w9 (⟨rfl, hj9, hk9⟩ | ⟨rfl, hjx⟩)
            · refine ⟨_, rfl, listIn_op (by rfl) (by intro c h; cases h) ?_⟩
              have HK9 := Lib.hid (HKp.out _ _ _ (Nat.le_refl _) (by omega) hk9)
              have HJ9 := Lib.hid hj9
              clear hj9 hk9
              unfold Oper.wp
              go_simp
              refine wpListIn_nil ?_
              simp only [Exit.then]
              go_wp2_with fail
              have hs8 : Still n0 b0 W w8 := S6.out.trans ⟨by omega, fun b hb hl => G8.out.block b hl (fun e => by injection e with e; omega)⟩
              go_roundg (ps.length - (i + 1))
              case measure => omega
              case rel => exact ⟨i + 1, told ++ [q5.d], q5, by omega, Nat.le_refl _, by go_num, hs8.trans HK9.out.1, by rw [HK9.out.2, HQC.out]; exact H8.out, HJ9.out, by rw [← heq]; simp⟩
            · refine ⟨_, rfl, listIn_op (by rfl) (by intro c h; cases h) ?_⟩
              have HJX := Lib.hid hjx
              clear hjx
              unfold Oper.wp
              go_simp
              refine wpListIn_nil ?_
              simp only [Exit.then]
              go_wp2_with fail
              refine bodyPost_ret (results_none rfl _ _ _) rfl ?_
              exact ⟨rfl, W.heap.size, Nat.le_refl _, .inr ⟨_, ⟨ents k pre (d0 :: dt) q5.d ((ps.map RowV.d).drop (i + 1)), by rw [← heq]; simp⟩, HJX.out⟩⟩
      | cut m hpre hcm hd hi hl he =>
          have HE := Lib.hid he
          clear he HENT
          rw [hpre]
          rw [hcm] at c31
          have c3t := (HC.out _ S3.out).ct
          have c3d := (HC.out _ S3.out).cd
          obtain ⟨fnT, hfT, hnT, hbT⟩ := HV.out.gt
          have HT : Hid (Calls Tryd.prog ft #[.agg pc] w4 (TellOut k p w4)) := by
            have := HV.out.tell p w4 (HPD.out.1.later B3.out) HPD.out.2
            rw [HPC.out] at this
            exact this
          have HFT := Lib.hid hfT
          clear hfT HPD HPC hk0 hk1
          go_wp2_with (first
            | (refine wpList_load_row (by rfl) 36 _ (by rfl) wr.heap.size (by rfl) 36 pc (0, 0) _ (by exact H3.out) Tryd.underlying36 rfl (by rw [hps.out]; kernel_rfl) ?_
               refine wpList_call_val (by rfl) HFT.out hnT hbT (xs := [.tmp 35]) (vs := [.agg pc]) (by rfl) (by rfl) (by exact HT.out) (by rfl) ?_
               clear HT
               rintro e w5 ⟨q5, rfl, hq5, ho5, b5⟩
               refine ⟨_, rfl, ?_⟩
               have B5 := Lib.hid (B3.out.trans (b5.mono (by omega)))
               have HO5 := Lib.hid ho5
               have HQ5 := Lib.hid hq5
               obtain ⟨qc, hqc⟩ : ∃ qc : Array Value, q5.cells.toArray = qc := ⟨_, rfl⟩
               have HQC := Lib.hid hqc
               have hqs : Hid (qc.size = 18) := by show _ = _; rw [← hqc]; rfl
               have hqo : Hid ((qc.all fun x => x.oneCell') = true) := by show _ = _; rw [← hqc]; exact ho5.ones
               have z5 := b5.size
               have P6 : Hid ((fun A : World => A.heap[w5.heap.size]? = some (.cells qc 36 (0, 0)) ∧ A.heap.size = w5.heap.size + 1 ∧ Below w5.heap.size w5 A) ((w5.alloc (.cells rowZC 36)).setRow w5.heap.size qc)) := by
                 rw [setRow_alloc _ _ _ _ _ rfl]
                 exact ⟨heap_alloc_new _ _, by simp, below_alloc (Below.refl _ _) (Nat.le_refl _) _⟩
               rw [hqc]
               clear ho5 hq5 b5 hqc c30 c31 c3p c3t c3d H3)
            | (refine wpList_store_rowN (by rfl) 36 _ _ (by rfl) w5.heap.size qc (by rfl) (by rfl) 36 rowZC (by exact heap_alloc_new _ _) (by rw [hqs.out]; kernel_rfl) (by rw [hqs.out]; rfl) (by exact hqo.out) (fun A : World => A.heap[w5.heap.size]? = some (.cells qc 36 (0, 0)) ∧ A.heap.size = w5.heap.size + 1 ∧ Below w5.heap.size w5 A) (by exact P6.out) ?_
               clear P6
               rintro w6 ⟨h6, z6, b6⟩
               have H6 := Lib.hid h6
               have B6 := Lib.hid (B5.out.trans (b6.mono (by omega)))
               have S6 := Lib.hid (IA.out.st.trans (Still.of_below B6.out))
               have HO6 := Lib.hid (HO5.out.later b6)
               have c6d := (HC.out _ S6.out).cd
               clear h6 b6 S3 B3 B5 HO5))
          refine (index_any (m0 := m0) (HKX.out.imp id fun hkx => Nat.lt_of_le_of_lt (trim_le p.d.key pre) hkx) (HR.out _ S6.out).2).mono ?_
          rintro e w7 ⟨rfl, rfl⟩
          simp only []
          obtain ⟨d0, dt, rfl⟩ : ∃ d0 dt, delim = d0 :: dt := by cases delim with
            | nil => exact absurd rfl hd
            | cons d0 dt => exact ⟨d0, dt, rfl⟩
          rw [hi]
          have hm0 : (0 : Int) ≤ (m : Int) := by omega
          have htl := trim_le p.d.key pre
          have c6p := (HC.out _ S6.out).cp
          go_upto_region 9 with fail
          have hlN : m + (dt.length + 1) ≤ (Lib.trimPrefix p.d.key pre).length := hl
          have HEC : Hid (entOf k pre (d0 :: dt) p.d = some (comR (pre ++ (Lib.trimPrefix p.d.key pre).take (m + (dt.length + 1))))) := HE.out
          obtain ⟨N, hN⟩ : ∃ N, m + (dt.length + 1) = N := ⟨_, rfl⟩
          have hwN : IntKind.i64.wrap ((m : Int) + ((dt.length : Int) + 1)) = (N : Int) := by rw [IntKind.wrap_i64]; omega
          have hN0 : (0 : Int) ≤ (N : Int) := by omega
          have hN1 : (N : Int) ≤ ((Lib.trimPrefix p.d.key pre).length : Int) := by omega
          have hN2 : N ≤ (Lib.trimPrefix p.d.key pre).length := by omega
          obtain ⟨tk, htk⟩ : ∃ tk, (Lib.trimPrefix p.d.key pre).take N = tk := ⟨_, rfl⟩
          have hex : (⟨(Lib.trimPrefix p.d.key pre).toArray⟩ : ByteArray).extract 0 N = ⟨tk.toArray⟩ := by rw [← htk]; exact extract_takeL _ _
          have hpk : pre.length + (Lib.trimPrefix p.d.key pre).length = p.d.key.length := by
            have h2 : pre.isPrefixOf p.d.key = true := hpre
            unfold Lib.trimPrefix
            rw [if_pos hpre, List.length_drop]
            have := isPrefixOf_len h2
            omega
          have htkl : tk.length ≤ (Lib.trimPrefix p.d.key pre).length := by rw [← htk, List.length_take]; omega
          rw [hN, htk] at HEC
          have hcat : ¬ 9223372036854775807 < pre.length + tk.length := by omega
          have happ : (⟨pre.toArray⟩ : ByteArray) ++ ⟨tk.toArray⟩ = ⟨(pre ++ tk).toArray⟩ := by apply ByteArray.ext; simp
          clear HE htk hN hlN hl
          have hDl := (Array.getElem?_eq_some_iff.1 IA.out.last).1
          obtain ⟨qx, hqx⟩ : ∃ qx : RowV, (⟨comR (pre ++ tk), .slice none 0 0, .slice none 0 0⟩ : RowV) = qx := ⟨_, rfl⟩
          have hxcc : (⟨comR (pre ++ tk), .slice none 0 0, .slice none 0 0⟩ : RowV).cells.toArray = qx.cells.toArray := by rw [hqx]
          obtain ⟨xc, hxc⟩ : ∃ xc : Array Value, qx.cells.toArray = xc := ⟨_, rfl⟩
          rw [hxc] at hxcc
          have HXC := Lib.hid hxcc
          have HQX := Lib.hid hqx
          have HXX := Lib.hid hxc
          have hxs : Hid (xc.size = 18) := by show _ = _; rw [← hxc]; rfl
          have hxo : Hid ((xc.all fun x => x.oneCell') = true) := by show _ = _; rw [← hxc, ← hqx]; exact RowV.ones rfl rfl
          have hx0 : Hid (xc[0]? = some (.string ⟨(pre ++ tk).toArray⟩)) := by show _ = _; rw [← hxcc]; rfl
          have HS9 : Hid ((fun A : World => A.cell? ⟨b0 + 1, 0, none⟩ = some (.string ⟨pre.toArray⟩) ∧ A.cell? ⟨b0 + 2, 0, none⟩ = some (.string ⟨(d0 :: dt).toArray⟩)) (w7.drew.setRow w5.heap.size xc)) :=
            ⟨(World.cell?_of_block (w := w7) (setRow_other _ _ _ _ (by simp only; omega))).trans c6p, (World.cell?_of_block (w := w7) (setRow_other _ _ _ _ (by simp only; omega))).trans c6d⟩
          have LD9 : Hid ((w7.drew.setRow w5.heap.size xc).heap[W.heap.size]? = some (.cells q.cells.toArray 36 (0, 0))) :=
            (setRow_other _ _ _ _ (by omega)).trans ((B6.out.block _ hDl).trans IA.out.last)
          have H9 : Hid ((w7.drew.setRow w5.heap.size xc).heap[w5.heap.size]? = some (.cells xc 36 (0, 0))) := setRow_heap _ _ _ _ _ _ H6.out
          have B9 : Hid (Below wr.heap.size wr (w7.drew.setRow w5.heap.size xc)) := B6.out.trans ⟨rfl, rfl, rfl, by simp, fun k hk => setRow_other _ _ _ _ (by omega)⟩
          have z9 : (w7.drew.setRow w5.heap.size xc).heap.size = w5.heap.size + 1 := by simp [z6]
          clear hxc hqx hxcc
          refine wp_region_held_drew (S := (fun A : World => A.cell? ⟨b0 + 1, 0, none⟩ = some (.string ⟨pre.toArray⟩) ∧ A.cell? ⟨b0 + 2, 0, none⟩ = some (.string ⟨(d0 :: dt).toArray⟩))) (by kernel_rfl) ⟨c6p, c6d⟩ (fun hS0 => ?_)
          refine wpAnyH_take (i := 0) (oi := { dst := some 46, op := _, type := _, pos := _, after := _, guard := _ }) (v := ?_) rfl (by kernel_rfl) (by kernel_rfl) (by kernel_rfl) (fun _ _ _ h => h) (Or.inl ⟨by kernel_rfl, ?_⟩) (by assumption) ?_
          rotate_left
          · (intro w hSw; (try dsimp only at hSw); obtain ⟨k1, k2⟩ := hSw; go_simp); all_goals (with_reducible rfl)
          try simp only [Act.put, List.setIfInBounds_toArray, List.set_cons_zero, List.set_cons_succ]
          refine wpAnyH_take (i := 1) (oi := { dst := some 47, op := _, type := _, pos := _, after := _, guard := _ }) (v := ?_) rfl (by kernel_rfl) (by kernel_rfl) (by kernel_rfl) (fun _ _ _ h => h) (Or.inl ⟨by kernel_rfl, ?_⟩) (by assumption) ?_
          rotate_left
          · (intro w hSw; (try dsimp only at hSw); go_simp); all_goals (with_reducible rfl)
          try simp only [Act.put, List.setIfInBounds_toArray, List.set_cons_zero, List.set_cons_succ]
          refine wpAnyH_take (i := 2) (oi := { dst := some 48, op := _, type := _, pos := _, after := _, guard := _ }) (v := ?_) rfl (by kernel_rfl) (by kernel_rfl) (by kernel_rfl) (fun _ _ _ h => h) (Or.inl ⟨by kernel_rfl, ?_⟩) (by assumption) ?_
          rotate_left
          · (intro w hSw; (try dsimp only at hSw); go_simp); all_goals (with_reducible rfl)
          try simp only [Act.put, List.setIfInBounds_toArray, List.set_cons_zero, List.set_cons_succ]
          refine wpAnyH_take (i := 3) (oi := { dst := some 49, op := _, type := _, pos := _, after := _, guard := _ }) (v := ?_) rfl (by kernel_rfl) (by kernel_rfl) (by kernel_rfl) (fun _ _ _ h => h) (Or.inl ⟨by kernel_rfl, ?_⟩) (by assumption) ?_
          rotate_left
          · (intro w hSw; (try dsimp only at hSw); obtain ⟨k1, k2⟩ := hSw; go_simp); all_goals (with_reducible rfl)
          try simp only [Act.put, List.setIfInBounds_toArray, List.set_cons_zero, List.set_cons_succ]
          refine wpAnyH_take (i := 4) (oi := { dst := some 50, op := _, type := _, pos := _, after := _, guard := _ }) (v := ?_) rfl (by kernel_rfl) (by kernel_rfl) (by kernel_rfl) (fun _ _ _ h => h) (Or.inl ⟨by kernel_rfl, ?_⟩) (by assumption) ?_
          rotate_left
          · (intro w hSw; (try dsimp only at hSw); go_simp); all_goals (with_reducible rfl)
          try simp only [Act.put, List.setIfInBounds_toArray, List.set_cons_zero, List.set_cons_succ]
          refine wpAnyH_take (i := 5) (oi := { dst := some 51, op := _, type := _, pos := _, after := _, guard := _ }) (v := ?_) rfl (by kernel_rfl) (by kernel_rfl) (by kernel_rfl) (fun _ _ _ h => h) (Or.inl ⟨by kernel_rfl, ?_⟩) (by assumption) ?_
          rotate_left
          · (intro w hSw; (try dsimp only at hSw); go_simp); all_goals (with_reducible rfl)
          try simp only [Act.put, List.setIfInBounds_toArray, List.set_cons_zero, List.set_cons_succ]
          refine wpAnyH_take (i := 6) (oi := { dst := some 52, op := _, type := _, pos := _, after := _, guard := _ }) (v := ?_) rfl (by kernel_rfl) (by kernel_rfl) (by kernel_rfl) (fun _ _ _ h => h) (Or.inl ⟨by kernel_rfl, ?_⟩) (by assumption) ?_
          rotate_left
          · (intro w hSw; (try dsimp only at hSw); go_simp); all_goals (with_reducible rfl)
          try simp only [Act.put, List.setIfInBounds_toArray, List.set_cons_zero, List.set_cons_succ]
          refine wpAnyH_take (i := 7) (oi := { dst := some 53, op := _, type := _, pos := _, after := _, guard := _ }) (v := ?_) rfl (by kernel_rfl) (by kernel_rfl) (by kernel_rfl) (fun _ _ _ h => h) (Or.inl ⟨by kernel_rfl, ?_⟩) (by assumption) ?_
          rotate_left
          · (intro w hSw; (try dsimp only at hSw); go_simp); all_goals (with_reducible rfl)
          try simp only [Act.put, List.setIfInBounds_toArray, List.set_cons_zero, List.set_cons_succ]
          refine wpAnyH_take (i := 8) (oi := { dst := some 54, op := _, type := _, pos := _, after := _, guard := _ }) (v := ?_) rfl (by kernel_rfl) (by kernel_rfl) (by kernel_rfl) (fun _ _ _ h => h) (Or.inl ⟨by kernel_rfl, ?_⟩) (by assumption) ?_
          rotate_left
          · (intro w hSw; (try dsimp only at hSw); go_simp); all_goals (with_reducible rfl)
          try simp only [Act.put, List.setIfInBounds_toArray, List.set_cons_zero, List.set_cons_succ]
          refine wpAnyH_ready (rs := [9]) (by kernel_rfl) (by simp) ?_
          refine (AllReadyH.cons (o := { dst := none, op := _, type := _, pos := _, after := _, guard := _ }) rfl (fun K hK => ?_) AllReadyH.nil)
          rw [if_pos (by kernel_rfl)]
          refine wp_store_row 36 _ _ (by rfl) w5.heap.size xc (by rfl) (by rw [← HXC.out]; rfl) 36 qc (by exact H6.out) (by rw [hxs.out]; kernel_rfl) (by rw [hxs.out, hqs.out]) (by exact hxo.out) ?_
          refine hK.out _ _ (by exact HS9.out) (fun hS => ?_)
          clear hK K
          try simp only [Act.put]
          refine wpAnyH_done (by kernel_rfl) ?_ _

          generalize (w7.drew.setRow w5.heap.size xc) = w9 at HS9 LD9 H9 B9 z9 hS ⊢
          obtain ⟨ck, hck⟩ : ∃ ck, pre ++ tk = ck := ⟨_, rfl⟩
          have hckl : ck.length ≤ 140737488355328 := by rw [← hck, List.length_append]; omega
          rw [hck] at HEC HQX hx0
          have S9 := Lib.hid (IA.out.st.trans (Still.of_below B9.out))
          have c9k : w9.cell? ⟨w5.heap.size, 0, none⟩ = some (.string ⟨ck.toArray⟩) := (cell_of_heap H9.out).trans hx0.out
          have c9c : w9.cell? ⟨W.heap.size, 1, none⟩ = some (.bool q.d.common) := (cell_of_heap LD9.out).trans rfl
          have c9l : w9.cell? ⟨W.heap.size, 0, none⟩ = some (.string ⟨q.d.key.toArray⟩) := (cell_of_heap LD9.out).trans rfl
          clear hS hS0 c6p c6d happ hcat hck HS9 hx0 hex
          cases hcq : q.d.common with
          | false =>
            have HCQ := Lib.hid hcq
            rw [hcq] at c9c
            clear hcq
            have hDlt := (Array.getElem?_eq_some_iff.1 IA.out.last).1
            have P8 : Hid ((fun A : World => A.heap[W.heap.size]? = some (.cells xc 36 (0, 0)) ∧ A.heap[w5.heap.size]? = some (.cells xc 36 (0, 0)) ∧ w9.grownBy A (some W.heap.size)) (w9.setRow W.heap.size xc)) :=
              ⟨setRow_heap _ _ _ _ _ _ LD9.out, (setRow_other _ _ _ _ (by omega)).trans H9.out, setRow_grown _ _ _⟩
            go_upto_region 12 with (first
              | (refine wpList_load_row (by rfl) 36 _ (by rfl) w5.heap.size (by rfl) 36 xc (0, 0) _ (by exact H9.out) Tryd.underlying36 rfl (by rw [hxs.out]; kernel_rfl) ?_)
              | (refine wpList_store_rowN (by rfl) 36 _ _ (by rfl) W.heap.size xc (by rfl) (by rfl) 36 q.cells.toArray (by exact LD9.out) (by rw [hxs.out]; kernel_rfl) (by rw [hxs.out]; rfl) (by exact hxo.out) (fun A : World => A.heap[W.heap.size]? = some (.cells xc 36 (0, 0)) ∧ A.heap[w5.heap.size]? = some (.cells xc 36 (0, 0)) ∧ w9.grownBy A (some W.heap.size)) (by exact P8.out) ?_
                 clear P8
                 rintro w8 ⟨h8, h8e, g8⟩
                 have H8 := Lib.hid h8
                 have H8e := Lib.hid h8e
                 have G8 := Lib.hid g8
                 have z8 := g8.size
                 clear h8 h8e g8))
            refine (wpIn_wide (n := 0)).1 (wpIn_region_lit ?_)
            refine listIn_op (by rfl) (by intro c h; cases h) (wp_moveL _ (by rfl) ?_)
            refine listIn_op (by rfl) (by intro c h; cases h) (wp_load_row 36 _ (by rfl) w5.heap.size (by rfl) 36 xc (0, 0) _ (by exact H8e.out) Tryd.underlying36 rfl (by rw [hxs.out]; kernel_rfl) ?_)
            have HO8 : Hid (RowOwn w8 (W.heap.size + 1) qx) := by
              rw [← HQX.out]
              exact ⟨World.ownsRow_nil _ _ _ _, World.ownsRow_nil _ _ _ _⟩
            have hent : ents k pre (d0 :: dt) q.d ((ps.map RowV.d).drop i) = qx.d :: ents k pre (d0 :: dt) qx.d ((ps.map RowV.d).drop (i + 1)) := by
              rw [hdrop.out, ← HQX.out]
              exact ents_new HEC.out (by show (true && q.d.common && q.d.key == ck) = false; rw [HCQ.out]; rfl)
            have heq := IA.out.eq
            rw [hent] at heq
            refine listIn_yield (v := .agg xc) (by rfl) (by rfl) (by rfl) (by rfl) (fun m => HY.out m W.heap.size told qx.d _ w8 (Nat.le_refl _) (by omega) ⟨qx, rfl, by rw [HXX.out], HO8.out, by rw [← HQX.out]; exact hckl⟩
              (HJ.out _ _ _ _ _ (Nat.le_refl _) (HJ.out _ _ _ _ none (Nat.le_refl _) IA.out.j ⟨B9.out.os, B9.out.tape, B9.out.output, B9.out.size, fun k hk _ => B9.out.block k hk⟩ (fun r hr => by cases hr)) G8.out (fun r hr => by injection hr with hr; exact hr.symm)) ⟨ents k pre (d0 :: dt) qx.d ((ps.map RowV.d).drop (i + 1)), by rw [← heq]; simp⟩) ?_
            rintro e w9 (⟨rfl, hj9, hk9⟩ | ⟨rfl, hjx⟩)
            · refine ⟨_, rfl, listIn_op (by rfl) (by intro c h; cases h) ?_⟩
              have HK9 := Lib.hid (HKp.out _ _ _ (Nat.le_refl _) (by omega) hk9)
              have HJ9 := Lib.hid hj9
              clear hj9 hk9
              unfold Oper.wp
              go_simp
              refine wpListIn_nil ?_
              simp only [Exit.then]
              go_wp2_with fail
              have hs8 : Still n0 b0 W w8 := S9.out.trans ⟨by omega, fun b hb hl => G8.out.block b hl (fun e => by injection e with e; omega)⟩
              go_roundg (ps.length - (i + 1))
              case measure => omega
              case rel => exact ⟨i + 1, told ++ [qx.d], qx, by omega, Nat.le_refl _, by go_num, hs8.trans HK9.out.1, by rw [HK9.out.2, HXX.out]; exact H8.out, HJ9.out, by rw [← heq]; simp⟩
            · refine ⟨_, rfl, listIn_op (by rfl) (by intro c h; cases h) ?_⟩
              have HJX := Lib.hid hjx
              clear hjx
              unfold Oper.wp
              go_simp
              refine wpListIn_nil ?_
              simp only [Exit.then]
              go_wp2_with fail
              refine bodyPost_ret (results_none rfl _ _ _) rfl ?_
              exact ⟨rfl, W.heap.size, Nat.le_refl _, .inr ⟨_, ⟨ents k pre (d0 :: dt) qx.d ((ps.map RowV.d).drop (i + 1)), by rw [← heq]; simp⟩, HJX.out⟩⟩
          | true =>
            have HCQ := Lib.hid hcq
            rw [hcq] at c9c
            clear hcq
            by_cases hk : q.d.key = ck
            · have HK := Lib.hid hk
              rw [hk] at c9l
              clear hk
              go_wp2_with fail
              go_roundg (ps.length - (i + 1))
              case measure => omega
              case rel =>
                refine ⟨i + 1, told, q, by omega, Nat.le_refl _, by go_num, S9.out, LD9.out, HJ.out _ _ _ _ none (Nat.le_refl _) IA.out.j ⟨B9.out.os, B9.out.tape, B9.out.output, B9.out.size, fun k hk _ => B9.out.block k hk⟩ (fun r hr => by cases hr), ?_⟩
                have := IA.out.eq
                rw [hdrop.out, ents_same HEC.out (by show (true && q.d.common && q.d.key == ck) = true; rw [HCQ.out, HK.out]; simp)] at this
                exact this
            · have hk2 : (q.d.key == ck) = false := by simpa using hk
              have hk3 : ¬ ck = q.d.key := fun e => hk e.symm
              have hDlt := (Array.getElem?_eq_some_iff.1 IA.out.last).1
              have P8 : Hid ((fun A : World => A.heap[W.heap.size]? = some (.cells xc 36 (0, 0)) ∧ A.heap[w5.heap.size]? = some (.cells xc 36 (0, 0)) ∧ w9.grownBy A (some W.heap.size)) (w9.setRow W.heap.size xc)) :=
                ⟨setRow_heap _ _ _ _ _ _ LD9.out, (setRow_other _ _ _ _ (by omega)).trans H9.out, setRow_grown _ _ _⟩
              go_upto_region 12 with (first
                | (refine wpList_load_row (by rfl) 36 _ (by rfl) w5.heap.size (by rfl) 36 xc (0, 0) _ (by exact H9.out) Tryd.underlying36 rfl (by rw [hxs.out]; kernel_rfl) ?_)
                | (refine wpList_store_rowN (by rfl) 36 _ _ (by rfl) W.heap.size xc (by rfl) (by rfl) 36 q.cells.toArray (by exact LD9.out) (by rw [hxs.out]; kernel_rfl) (by rw [hxs.out]; rfl) (by exact hxo.out) (fun A : World => A.heap[W.heap.size]? = some (.cells xc 36 (0, 0)) ∧ A.heap[w5.heap.size]? = some (.cells xc 36 (0, 0)) ∧ w9.grownBy A (some W.heap.size)) (by exact P8.out) ?_
                   clear P8
                   rintro w8 ⟨h8, h8e, g8⟩
                   have H8 := Lib.hid h8
                   have H8e := Lib.hid h8e
                   have G8 := Lib.hid g8
                   have z8 := g8.size
                   clear h8 h8e g8))
              refine (wpIn_wide (n := 0)).1 (wpIn_region_lit ?_)
              refine listIn_op (by rfl) (by intro c h; cases h) (wp_moveL _ (by rfl) ?_)
              refine listIn_op (by rfl) (by intro c h; cases h) (wp_load_row 36 _ (by rfl) w5.heap.size (by rfl) 36 xc (0, 0) _ (by exact H8e.out) Tryd.underlying36 rfl (by rw [hxs.out]; kernel_rfl) ?_)
              have HO8 : Hid (RowOwn w8 (W.heap.size + 1) qx) := by
                rw [← HQX.out]
                exact ⟨World.ownsRow_nil _ _ _ _, World.ownsRow_nil _ _ _ _⟩
              have hent : ents k pre (d0 :: dt) q.d ((ps.map RowV.d).drop i) = qx.d :: ents k pre (d0 :: dt) qx.d ((ps.map RowV.d).drop (i + 1)) := by
                rw [hdrop.out, ← HQX.out]
                exact ents_new HEC.out (by show (true && q.d.common && q.d.key == ck) = false; rw [hk2, Bool.and_false])
              have heq := IA.out.eq
              rw [hent] at heq
              refine listIn_yield (v := .agg xc) (by rfl) (by rfl) (by rfl) (by rfl) (fun m => HY.out m W.heap.size told qx.d _ w8 (Nat.le_refl _) (by omega) ⟨qx, rfl, by rw [HXX.out], HO8.out, by rw [← HQX.out]; exact hckl⟩
                (HJ.out _ _ _ _ _ (Nat.le_refl _) (HJ.out _ _ _ _ none (Nat.le_refl _) IA.out.j ⟨B9.out.os, B9.out.tape, B9.out.output, B9.out.size, fun k hk _ => B9.out.block k hk⟩ (fun r hr => by cases hr)) G8.out (fun r hr => by injection hr with hr; exact hr.symm)) ⟨ents k pre (d0 :: dt) qx.d ((ps.map RowV.d).drop (i + 1)), by rw [← heq]; simp⟩) ?_
              rintro e w9 (⟨rfl, hj9, hk9⟩ | ⟨rfl, hjx⟩)
              · refine ⟨_, rfl, listIn_op (by rfl) (by intro c h; cases h) ?_⟩
                have HK9 := Lib.hid (HKp.out _ _ _ (Nat.le_refl _) (by omega) hk9)
                have HJ9 := Lib.hid hj9
                clear hj9 hk9
                unfold Oper.wp
                go_simp
                refine wpListIn_nil ?_
                simp only [Exit.then]
                go_wp2_with fail
                have hs8 : Still n0 b0 W w8 := S9.out.trans ⟨by omega, fun b hb hl => G8.out.block b hl (fun e => by injection e with e; omega)⟩
                go_roundg (ps.length - (i + 1))
                case measure => omega
                case rel => exact ⟨i + 1, told ++ [qx.d], qx, by omega, Nat.le_refl _, by go_num, hs8.trans HK9.out.1, by rw [HK9.out.2, HXX.out]; exact H8.out, HJ9.out, by rw [← heq]; simp⟩
              · refine ⟨_, rfl, listIn_op (by rfl) (by intro c h; cases h) ?_⟩
                have HJX := Lib.hid hjx
                clear hjx
                unfold Oper.wp
                go_simp
                refine wpListIn_nil ?_
                simp only [Exit.then]
                go_wp2_with fail
                refine bodyPost_ret (results_none rfl _ _ _) rfl ?_
                exact ⟨rfl, W.heap.size, Nat.le_refl _, .inr ⟨_, ⟨ents k pre (d0 :: dt) qx.d ((ps.map RowV.d).drop (i + 1)), by rw [← heq]; simp⟩, HJX.out⟩⟩
    · obtain rfl : i = ps.length := by omega
      go_wp2
      go_end0
      refine ⟨rfl, W.heap.size, Nat.le_refl _, .inl ?_⟩
      have := IA.out.eq
      rw [List.drop_of_length_le (by simp)] at this
      rw [← this]
      simpa [ents] using IA.out.j
end Go.Proofs.YtgklbmcnpnmkkaaDoor
