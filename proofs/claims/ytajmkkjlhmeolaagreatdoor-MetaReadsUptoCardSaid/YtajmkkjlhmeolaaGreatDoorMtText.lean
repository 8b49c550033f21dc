/-
  The readers of fields: text, number, flag, short, when, seq, of, done: the walks.
-/
import Derived.Test.YtajmkkjlhmeolaaGreatDoorSm4
namespace Go.Proofs.YtajmkkjlhmeolaaGreatDoor
open Go.RowKit

/-- the block in which fields are read: what is left, whether something was wrong -/
def InF (w : World) (b : Nat) (f : Fs) : Prop := w.heap[b]? = some (.cells #[.string ⟨f.rest.toArray⟩, .bool f.bad] 100 (0, 0))
theorem InF.lt {w : World} {b : Nat} {f : Fs} (h : InF w b f) : b < w.heap.size := (Array.getElem?_eq_some_iff.1 h).1
theorem InF.later {w w' : World} {b : Nat} {f : Fs} (h : InF w b f) (hb : Below w.heap.size w w') : InF w' b f := (hb.block b h.lt).trans h

theorem only_below {a w w' : World} {row : Option Nat} (h : a.grownBy w row) (hb : Below w.heap.size w w') : a.grownBy w' row :=
  ⟨hb.os.trans h.os, hb.tape.trans h.tape, hb.output.trans h.output, Nat.le_trans h.size hb.size, fun i hi hn => (hb.block i (Nat.lt_of_lt_of_le hi h.size)).trans (h.block i hi hn)⟩
theorem only_set {a w : World} {g : Nat} (h : a.grownBy w (some g)) (x : Nat) (u : Value) : a.grownBy (w.setCell ⟨g, x, none⟩ u) (some g) :=
  ⟨h.os, h.tape, h.output, by simpa [World.setCell] using h.size, fun i hi hne => (Below.heap_setCell w ⟨g, x, none⟩ u i (by rintro rfl; exact hne rfl)).trans (h.block i hi hne)⟩
theorem only_trans {a b c : World} {row : Option Nat} (h : a.grownBy b row) (k : b.grownBy c row) : a.grownBy c row :=
  ⟨k.os.trans h.os, k.tape.trans h.tape, k.output.trans h.output, Nat.le_trans h.size k.size, fun i hi hn => (k.block i (Nat.lt_of_lt_of_le hi h.size) hn).trans (h.block i hi hn)⟩
theorem below_only {a w : World} {b B : Nat} (h : a.grownBy w (some b)) (hB : B ≤ b) (hs : B ≤ a.heap.size) : Below B a w :=
  ⟨h.os, h.tape, h.output, h.size, fun k hk => h.block k (by omega) (fun e => by injection e; omega)⟩
theorem Glob.under {B : Nat} {w w' : World} (h : Glob w) (hB : 9 ≤ B) (hb : Below B w w') : Glob w' :=
  ⟨Nat.le_trans h.size hb.size, by rw [hb.cell (by simp only; omega)]; exact h.tz, var?_below (g := 3) hb (by kernel_rfl) (by omega) h.pow,
    by obtain ⟨a, b, c⟩ := h.esyn; exact ⟨a, b, by rw [hb.cell (by simp only; omega)]; exact c⟩, by obtain ⟨a, b, c⟩ := h.eran; exact ⟨a, b, by rw [hb.cell (by simp only; omega)]; exact c⟩⟩
theorem Glob.only {w w' : World} {b : Nat} (h : Glob w) (hg : w.grownBy w' (some b)) (hb : 9 ≤ b) (hlt : b < w.heap.size) : Glob w' :=
  h.under (Nat.le_refl _) (below_only hg hb (by omega))

theorem atoi_int {l : List UInt8} {v : Int} (h : Lib.atoiAll l = .ok v) : IntOK v := by
  unfold Lib.atoiAll at h
  split at h
  · cases h
  · simp only at h
    split at h
    · cases h
    · cases h
    · split at h
      · cases h
      · split at h
        · cases h
        · rename_i h1 h2
          simp only [Lib.NumEnd.ok.injEq] at h
          unfold IntOK
          split at h <;> omega

/-- how Atoi ends -/
def AtoiOut (l : List UInt8) (w : World) (e : Ending) (w' : World) : Prop :=
  ((∃ v, Lib.atoiAll l = .ok v ∧ e = .returned (.tuple #[.int .i64 v, .nilIface])) ∨
    ((∀ v, Lib.atoiAll l ≠ .ok v) ∧ ∃ v N, e = .returned (.tuple #[.int .i64 v, .iface 156 (.pointer (some ⟨N, 0, none⟩))]))) ∧ Below w.heap.size w w'
theorem atoi_any (l : List UInt8) (hl : l.length ≤ 140737488355328) (w : World) (hg : Glob w) : Calls Tryz.prog 51 #[.string ⟨l.toArray⟩] w (AtoiOut l w) := by
  have hs : (⟨l.toArray⟩ : ByteArray).size = l.length := by simp [ByteArray.size]
  rcases hc : Lib.atoiAll l with v | _ | _
  · refine (Tryz.strconv_Atoi_ok ⟨l.toArray⟩ (by omega) v (by simpa using hc) w).mono ?_
    rintro e w' ⟨rfl, rfl | ⟨t, rfl⟩⟩
    · exact ⟨.inl ⟨v, hc, rfl⟩, Below.refl _ _⟩
    · exact ⟨.inl ⟨v, hc, rfl⟩, below_bytesWorld _ _ _⟩
  · obtain ⟨te, pe, hv⟩ := hg.esyn
    refine (Tryz.strconv_Atoi_syntax ⟨l.toArray⟩ (by omega) (by simpa using hc) _ w hv (.inr ⟨te, pe, rfl⟩)).mono ?_
    rintro e w' ⟨N, rfl, _, _, hb⟩
    exact ⟨.inr ⟨(fun v h => by rw [hc] at h; cases h), _, N, rfl⟩, hb⟩
  · obtain ⟨te, pe, hv⟩ := hg.eran
    refine (Tryz.strconv_Atoi_range ⟨l.toArray⟩ (by omega) (by simpa using hc) _ w hv (.inr ⟨te, pe, rfl⟩)).mono ?_
    rintro e w' ⟨N, rfl, _, _, hb⟩
    exact ⟨.inr ⟨(fun v h => by rw [hc] at h; cases h), _, N, rfl⟩, hb⟩


theorem itoaL_any (n : Int) (h : IntOK n) (w : World) (hg : Glob w) : Calls Tryz.prog 58 #[.int .i64 n] w fun e w' => e = .returned (.string ⟨(Lib.itoa n).toArray⟩) ∧ Below w.heap.size w w' := itoa_any n h w hg

/-- what a reader leaves -/
def TextOut (b : Nat) (t : List UInt8) (f : Fs) (w : World) (e : Ending) (w' : World) : Prop := e = .returned (.string ⟨t.toArray⟩) ∧ InF w' b f ∧ w.grownBy w' (some b)

theorem inF_bad {w : World} {b : Nat} {r : List UInt8} {x : Bool} (h : InF w b ⟨r, x⟩) (y : Bool) : InF (w.setCell ⟨b, 1, none⟩ (.bool y)) b ⟨r, y⟩ := by
  unfold InF at *
  rw [heap_set h]; rfl
theorem inF_rest {w : World} {b : Nat} {r : List UInt8} {x : Bool} (h : InF w b ⟨r, x⟩) (l : List UInt8) : InF (w.setCell ⟨b, 0, none⟩ (.string ⟨l.toArray⟩)) b ⟨l, x⟩ := by
  unfold InF at *
  rw [heap_set h]; rfl

theorem extractL_take (l : List UInt8) (m : Nat) : (⟨l.toArray⟩ : ByteArray).extract 0 m = ⟨(l.take m).toArray⟩ := extract_take ⟨l.toArray⟩ m
theorem extractL_drop (l : List UInt8) (m : Nat) : (⟨l.toArray⟩ : ByteArray).extract m l.length = ⟨(l.drop m).toArray⟩ := by
  have h := extract_drop ⟨l.toArray⟩ m
  simpa [ByteArray.size] using h

set_option maxHeartbeats 2000000 in
set_option maxRecDepth 100000 in
theorem text_any (b : Nat) (f : Fs) (w : World) (hG : Glob w) (h : InF w b f) (hl : f.rest.length ≤ 140737488351232) :
    Calls Tryz.prog 60 #[.pointer (some ⟨b, 0, none⟩)] w (TextOut b (textF f).1 (textF f).2 w) := by
  obtain ⟨rest, bad⟩ := f
  simp only at hl
  obtain ⟨hd, rs, ok, hcut⟩ : ∃ hd rs ok, cut1 rest 58 = (hd, rs, ok) := ⟨_, _, _, rfl⟩
  have hlen := cut1_len rest 58
  rw [hcut] at hlen
  simp only at hlen
  have HC : Hid (∀ W, Calls Tryz.prog 49 #[.string ⟨rest.toArray⟩, .string ⟨#[58]⟩] W fun e w' => e = .returned (.tuple #[.string ⟨hd.toArray⟩, .string ⟨rs.toArray⟩, .bool ok]) ∧ ∃ n, w' = W.drewN n) := fun W => by
    have := cut_any ⟨rest.toArray⟩ 58 W (by show rest.toArray.size ≤ _; simp; omega)
    rw [hcut] at this
    exact this
  have HA := Lib.hid (fun W hG => atoi_any hd (by omega) W hG)
  have HI := Lib.hid (fun v h W hG => itoaL_any v h W hG)
  have HG := Lib.hid hG
  have HF := Lib.hid h
  have HBAD : Hid (takeText rest = none → textF ⟨rest, bad⟩ = ([], ⟨rest, true⟩)) := fun e => by unfold textF; rw [e]
  have q0 : w.cell? ⟨b, 0, none⟩ = some (.string ⟨rest.toArray⟩) := cell_of_heap h
  have q1 : w.cell? ⟨b, 1, none⟩ = some (.bool bad) := cell_of_heap h
  have hf0 : w.frozen? ⟨b, 0, none⟩ = false := free_of_heap h
  have hf1 : w.frozen? ⟨b, 1, none⟩ = false := free_of_heap h
  have hlt := h.lt
  have HCUT := Lib.hid hcut
  clear h hG hcut
  go_enter Tryz.func60, Tryz.ntmps60
  go_wp2_with fail
  refine (HC.out _).mono ?_
  rintro e w1 ⟨rfl, n1, rfl⟩
  go_wp2_with fail
  refine (HA.out _ (HG.out.later (belowDrewN (Below.refl _ _) _))).mono ?_
  rintro e w2 ⟨he, hb2⟩
  have B2 : Hid (Below w.heap.size w w2) := (belowDrewN (Below.refl _ _) _).trans hb2
  replace q0 := cell_later B2.out q0
  replace q1 := cell_later B2.out q1
  have g0 : w2.frozen? ⟨b, 0, none⟩ = false := by rw [B2.out.frozen (by simpa using hlt)]; exact hf0
  have g1 : w2.frozen? ⟨b, 1, none⟩ = false := by rw [B2.out.frozen (by simpa using hlt)]; exact hf1
  have F2 : Hid (InF w2 b ⟨rest, bad⟩) := HF.out.later B2.out
  have hs2 := B2.out.size
  have HEQ : Hid (takeText rest = match canonInt hd with
    | some n => if ok = true ∧ 0 ≤ n ∧ n < rs.length ∧ rs[n.toNat]? = some 44 then some (rs.take n.toNat, rs.drop (n.toNat + 1)) else none
    | none => none) := by show _ = _; unfold takeText; rw [HCUT.out]; rfl
  clear hb2 hf0 hf1
  rcases he with ⟨v, hv, rfl⟩ | ⟨hv, v, N, rfl⟩
  · have hvI := atoi_int hv
    obtain ⟨I, hI⟩ : ∃ I, Hid (Lib.itoa v = I) := ⟨_, rfl⟩
    have HIv : Hid (∀ W, Glob W → Calls Tryz.prog 58 #[.int .i64 v] W fun e w' => e = .returned (.string ⟨I.toArray⟩) ∧ Below W.heap.size W w') := fun W hG => by rw [← hI.out]; exact HI.out v hvI W hG
    have HV := Lib.hid hv
    have HVI := Lib.hid hvI
    clear hv hvI
    cases ok with
    | false =>
      have HT : Hid (textF ⟨rest, bad⟩ = ([], ⟨rest, true⟩)) := HBAD.out (by rw [HEQ.out]; split <;> simp)
      go_wp2
      go_ret
      rw [HT.out]
      exact ⟨rfl, inF_bad F2.out _, only_set (only_below (World.grownBy.refl w _) B2.out) _ _⟩
    | true =>
      by_cases hE : hd = I
      · subst hE
        have HCI : Hid (canonInt hd = some v) := by show _ = _; unfold canonInt; rw [HV.out]; simp only; rw [if_pos hI.out]
        rw [HCI.out] at HEQ
        simp only at HEQ
        by_cases hv0 : v < 0
        · have HT : Hid (textF ⟨rest, bad⟩ = ([], ⟨rest, true⟩)) := HBAD.out (by rw [HEQ.out, if_neg (by omega)])
          clear HEQ
          go_wp2_with fail
          refine (HIv.out _ (HG.out.later B2.out)).mono ?_
          rintro e w3 ⟨rfl, hb3⟩
          have B3 : Hid (Below w2.heap.size w2 w3) := hb3
          have p1 := cell_later hb3 q1
          have r1 : w3.frozen? ⟨b, 1, none⟩ = false := by rw [hb3.frozen (by simp only; omega)]; exact g1
          clear hb3
          go_wp2
          go_ret
          rw [HT.out]
          exact ⟨rfl, inF_bad (F2.out.later B3.out) _, only_set (only_below (World.grownBy.refl w _) (B2.out.trans (B3.out.mono B2.out.size))) _ _⟩
        · obtain ⟨m, rfl⟩ := Int.eq_ofNat_of_zero_le (show 0 ≤ v by omega)
          simp only [Int.toNat_natCast] at HEQ
          clear hv0
          by_cases hvl : rs.length ≤ m
          · have HT : Hid (textF ⟨rest, bad⟩ = ([], ⟨rest, true⟩)) := HBAD.out (by rw [HEQ.out, if_neg (by omega)])
            have hvl' : (rs.length : Int) ≤ (m : Int) := by omega
            clear HEQ
            go_wp2_with fail
            refine (HIv.out _ (HG.out.later B2.out)).mono ?_
            rintro e w3 ⟨rfl, hb3⟩
            have B3 : Hid (Below w2.heap.size w2 w3) := hb3
            have p1 := cell_later hb3 q1
            have r1 : w3.frozen? ⟨b, 1, none⟩ = false := by rw [hb3.frozen (by simp only; omega)]; exact g1
            clear hb3
            go_wp2
            go_ret
            rw [HT.out]
            exact ⟨rfl, inF_bad (F2.out.later B3.out) _, only_set (only_below (World.grownBy.refl w _) (B2.out.trans (B3.out.mono B2.out.size))) _ _⟩
          · have hm : m < rs.length := by omega
            have hml : (m : Int) < (rs.length : Int) := by omega
            have hm1 : (m : Int) + 1 ≤ (rs.length : Int) := by omega
            have hgz : (⟨rs.toArray⟩ : ByteArray)[m]'(by simpa [ByteArray.size] using hm) = rs[m] := by simp [ByteArray.getElem_eq_getElem_data]
            by_cases hc : rs[m] = 44
            · have HT : Hid (textF ⟨rest, bad⟩ = (rs.take m, ⟨rs.drop (m + 1), bad⟩)) := by
                show _ = _
                unfold textF
                simp only
                rw [HEQ.out, if_pos ⟨by simp, by omega, by omega, by rw [List.getElem?_eq_getElem hm, hc]⟩]
              have hx : ((((⟨rs.toArray⟩ : ByteArray)[m]'(by simpa [ByteArray.size] using hm)).toNat : Int) != 44) = false := by rw [hgz, hc]; rfl
              clear HEQ hgz hc hvl
              go_wp2_with fail
              refine (HIv.out _ (HG.out.later B2.out)).mono ?_
              rintro e w3 ⟨rfl, hb3⟩
              have B3 : Hid (Below w2.heap.size w2 w3) := hb3
              have p0 := cell_later hb3 q0
              have r0 : w3.frozen? ⟨b, 0, none⟩ = false := by rw [hb3.frozen (by simp only; omega)]; exact g0
              clear hb3
              go_wp2
              go_ret
              rw [HT.out, extractL_drop]
              exact ⟨by rw [← extractL_take]; rfl, inF_rest (F2.out.later B3.out) _, only_set (only_below (World.grownBy.refl w _) (B2.out.trans (B3.out.mono B2.out.size))) _ _⟩
            · have HT : Hid (textF ⟨rest, bad⟩ = ([], ⟨rest, true⟩)) := HBAD.out (by rw [HEQ.out, if_neg (fun h => hc (by have := h.2.2.2; rw [List.getElem?_eq_getElem hm] at this; exact Option.some.inj this))])
              have hx : ((((⟨rs.toArray⟩ : ByteArray)[m]'(by simpa [ByteArray.size] using hm)).toNat : Int) != 44) = true := by
                rw [hgz, bne_iff_ne]
                intro e
                exact hc (UInt8.toNat_inj.1 (by have h44 : (44 : UInt8).toNat = 44 := rfl; omega))
              clear HEQ hgz hc hvl
              go_wp2_with fail
              refine (HIv.out _ (HG.out.later B2.out)).mono ?_
              rintro e w3 ⟨rfl, hb3⟩
              have B3 : Hid (Below w2.heap.size w2 w3) := hb3
              have p1 := cell_later hb3 q1
              have r1 : w3.frozen? ⟨b, 1, none⟩ = false := by rw [hb3.frozen (by simp only; omega)]; exact g1
              clear hb3
              go_wp2
              go_ret
              rw [HT.out]
              exact ⟨rfl, inF_bad (F2.out.later B3.out) _, only_set (only_below (World.grownBy.refl w _) (B2.out.trans (B3.out.mono B2.out.size))) _ _⟩
      · have HT : Hid (textF ⟨rest, bad⟩ = ([], ⟨rest, true⟩)) := HBAD.out (by
          rw [HEQ.out]
          have : canonInt hd = none := by unfold canonInt; rw [HV.out]; simp only; rw [if_neg (fun e => hE (by rw [← hI.out]; exact e.symm))]
          rw [this])
        clear HEQ
        go_wp2_with fail
        refine (HIv.out _ (HG.out.later B2.out)).mono ?_
        rintro e w3 ⟨rfl, hb3⟩
        have B3 : Hid (Below w2.heap.size w2 w3) := hb3
        have p1 := cell_later hb3 q1
        have r1 : w3.frozen? ⟨b, 1, none⟩ = false := by rw [hb3.frozen (by simp only; omega)]; exact g1
        clear hb3
        go_wp2
        go_ret
        rw [HT.out]
        exact ⟨rfl, inF_bad (F2.out.later B3.out) _, only_set (only_below (World.grownBy.refl w _) (B2.out.trans (B3.out.mono B2.out.size))) _ _⟩
  · have HT : Hid (textF ⟨rest, bad⟩ = ([], ⟨rest, true⟩)) := HBAD.out (by
      rw [HEQ.out]
      have : canonInt hd = none := by
        unfold canonInt
        rcases hc : Lib.atoiAll hd with v | _ | _
        · exact absurd hc (hv v)
        · rfl
        · rfl
      rw [this])
    clear HEQ hv
    cases ok
    all_goals
      go_wp2
      go_ret
      rw [HT.out]
      exact ⟨rfl, inF_bad F2.out _, only_set (only_below (World.grownBy.refl w _) B2.out) _ _⟩

/-- what a reader of a number leaves -/
def NumOut (b : Nat) (n : Int) (f : Fs) (w : World) (e : Ending) (w' : World) : Prop := e = .returned (.int .i64 n) ∧ InF w' b f ∧ w.grownBy w' (some b)

set_option maxHeartbeats 2000000 in
set_option maxRecDepth 100000 in
theorem number_field_any (b : Nat) (x y : Int) (f : Fs) (w : World) (hx : IntOK x) (hy : IntOK y) (hG : Glob w) (hb : 9 ≤ b) (h : InF w b f) (hl : f.rest.length ≤ 140737488351232) :
    Calls Tryz.prog 63 #[.pointer (some ⟨b, 0, none⟩), .int .i64 x, .int .i64 y] w (NumOut b (numberF x y f).1 (numberF x y f).2 w) := by
  have HT := Lib.hid (text_any b f w hG h hl)
  have hlen := (textF_len f).1
  have HEQ : Hid (numberF x y f = match canonInt (textF f).1 with
    | some n => if x ≤ n ∧ n ≤ y then (n, (textF f).2) else (x, ⟨(textF f).2.rest, true⟩)
    | none => (x, ⟨(textF f).2.rest, true⟩)) := rfl
  have hlt := h.lt
  obtain ⟨⟨t, g⟩, htf⟩ : ∃ p, textF f = p := ⟨_, rfl⟩
  obtain ⟨N, HN⟩ : ∃ N, Hid (numberF x y f = N) := ⟨_, rfl⟩
  rw [HN.out] at HEQ ⊢
  rw [htf] at HT HEQ hlen
  simp only at HT HEQ hlen
  have HA := Lib.hid (fun W hG => atoi_any t (by omega) W hG)
  have HI := Lib.hid (fun v h W hG => itoaL_any v h W hG)
  have HG := Lib.hid hG
  obtain ⟨hx1, hx2⟩ := hx
  obtain ⟨hy1, hy2⟩ := hy
  clear h hG htf
  go_enter Tryz.func63, Tryz.ntmps63
  go_wp2_with fail
  refine HT.out.mono ?_
  rintro e w1 ⟨rfl, hf1, hg1⟩
  have F1 := Lib.hid hf1
  have G1 := Lib.hid hg1
  have GG1 : Hid (Glob w1) := HG.out.only hg1 hb hlt
  have hlt1 := hf1.lt
  obtain ⟨rest, bad⟩ := g
  clear hf1 hg1
  go_wp2_with fail
  refine (HA.out _ GG1.out).mono ?_
  rintro e w2 ⟨he, hb2⟩
  have B2 := Lib.hid hb2
  have hs2 := hb2.size
  have q1 : w2.cell? ⟨b, 1, none⟩ = some (.bool bad) := cell_of_heap (F1.out.later hb2)
  have g1 : w2.frozen? ⟨b, 1, none⟩ = false := free_of_heap (F1.out.later hb2)
  clear hb2
  rcases he with ⟨v, hv, rfl⟩ | ⟨hv, v, M, rfl⟩
  · have hvI := atoi_int hv
    obtain ⟨I, hI⟩ : ∃ I, Hid (Lib.itoa v = I) := ⟨_, rfl⟩
    have HIv : Hid (∀ W, Glob W → Calls Tryz.prog 58 #[.int .i64 v] W fun e w' => e = .returned (.string ⟨I.toArray⟩) ∧ Below W.heap.size W w') := fun W hG => by rw [← hI.out]; exact HI.out v hvI W hG
    have HV := Lib.hid hv
    obtain ⟨hv1, hv2⟩ := hvI
    clear hv
    by_cases hE : t = I
    · subst hE
      have HCI : Hid (canonInt t = some v) := by show _ = _; unfold canonInt; rw [HV.out]; simp only; rw [if_pos hI.out]
      rw [HCI.out] at HEQ
      simp only at HEQ
      by_cases hv0 : x ≤ v ∧ v ≤ y
      · rw [if_pos hv0] at HEQ
        obtain ⟨hv3, hv4⟩ := hv0
        go_wp2_with fail
        refine (HIv.out _ (GG1.out.later B2.out)).mono ?_
        rintro e w3 ⟨rfl, hb3⟩
        have B3 := Lib.hid hb3
        clear hb3
        go_wp2
        go_ret
        rw [HEQ.out]
        exact ⟨rfl, (F1.out.later B2.out).later B3.out, only_below (only_below G1.out B2.out) B3.out⟩
      · rw [if_neg hv0] at HEQ
        have hv0' : v < x ∨ (x ≤ v ∧ y < v) := by omega
        clear hv0
        rcases hv0' with hv0 | ⟨hvx, hv0⟩
        all_goals
          go_wp2_with fail
          refine (HIv.out _ (GG1.out.later B2.out)).mono ?_
          rintro e w3 ⟨rfl, hb3⟩
          have B3 := Lib.hid hb3
          have p1 := cell_later hb3 q1
          have r1 : w3.frozen? ⟨b, 1, none⟩ = false := by rw [hb3.frozen (by simp only; omega)]; exact g1
          clear hb3
          go_wp2
          go_ret
          rw [HEQ.out]
          exact ⟨rfl, inF_bad ((F1.out.later B2.out).later B3.out) _, only_set (only_below (only_below G1.out B2.out) B3.out) _ _⟩
    · have HCI : Hid (canonInt t = none) := by show _ = _; unfold canonInt; rw [HV.out]; simp only; rw [if_neg (fun e => hE (by rw [← hI.out]; exact e.symm))]
      rw [HCI.out] at HEQ
      simp only at HEQ
      go_wp2_with fail
      refine (HIv.out _ (GG1.out.later B2.out)).mono ?_
      rintro e w3 ⟨rfl, hb3⟩
      have B3 := Lib.hid hb3
      have p1 := cell_later hb3 q1
      have r1 : w3.frozen? ⟨b, 1, none⟩ = false := by rw [hb3.frozen (by simp only; omega)]; exact g1
      clear hb3
      go_wp2
      go_ret
      rw [HEQ.out]
      exact ⟨rfl, inF_bad ((F1.out.later B2.out).later B3.out) _, only_set (only_below (only_below G1.out B2.out) B3.out) _ _⟩
  · have HCI : Hid (canonInt t = none) := by
      show _ = _
      unfold canonInt
      rcases hc : Lib.atoiAll t with v | _ | _
      · exact absurd hc (hv v)
      · rfl
      · rfl
    rw [HCI.out] at HEQ
    simp only at HEQ
    clear hv
    go_wp2
    go_ret
    rw [HEQ.out]
    exact ⟨rfl, inF_bad (F1.out.later B2.out) _, only_set (only_below G1.out B2.out) _ _⟩

end Go.Proofs.YtajmkkjlhmeolaaGreatDoor
