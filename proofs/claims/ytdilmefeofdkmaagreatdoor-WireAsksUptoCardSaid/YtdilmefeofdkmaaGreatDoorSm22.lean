/-
  SEVERAL SMALL TEXTS IN ONE.
-/
import Derived.Test.YtdilmefeofdkmaaGreatDoorSm2
import Derived.Test.YtdilmefeofdkmaaGreatDoorSm5
import Derived.Deep.LoopGhost
import Derived.PlainAid
import Derived.Test.YtdilmefeofdkmaaGreatDoorWxRd
/-
  WIRE: the document's small functions: isDigit, split, trimmed.
-/
namespace Go.Proofs.YtdilmefeofdkmaaGreatDoor
open Go.RowKit Go.PlainAid

theorem rd_le (a b : UInt8) : decide (a ≤ b) = decide ((a.toNat : Int) ≤ (b.toNat : Int)) := by
  congr 1; rw [UInt8.le_iff_toNat_le]; exact propext (by omega)
set_option maxHeartbeats 1000000 in
theorem rDigit_any (b : UInt8) (w : World) : Calls Tryz.prog 74 #[.int .u8 (b.toNat : Int)] w fun e w' => e = .returned (.bool (digB b)) ∧ w' = w := by
  rw [show digB b = (decide (48 ≤ (b.toNat : Int)) && decide ((b.toNat : Int) ≤ 57)) from by unfold digB; rw [rd_le, rd_le]; rfl]
  have hb := b.toNat_lt
  generalize b.toNat = n at *
  by_cases h1 : 48 ≤ (n : Int)
  · rw [decide_eq_true h1]
    by_cases h2 : (n : Int) ≤ 57
    · rw [decide_eq_true h2]
      go_enter Tryz.func74, Tryz.ntmps74
      go_wp2
      go_ret
      exact ⟨rfl, rfl⟩
    · rw [decide_eq_false h2]
      have h3 : 57 < (n : Int) := by omega
      go_enter Tryz.func74, Tryz.ntmps74
      go_wp2
      go_ret
      exact ⟨rfl, rfl⟩
  · rw [decide_eq_false h1]
    have h3 : (n : Int) < 48 := by omega
    go_enter Tryz.func74, Tryz.ntmps74
    go_wp2
    go_ret
    exact ⟨rfl, rfl⟩

theorem bt_at {s : ByteArray} {i : Nat} (h : i < s.size) : ∃ c : UInt8, s.data.toList[i]? = some c ∧ s.data.toList.drop i = c :: s.data.toList.drop (i + 1) ∧ s.data.toList.take (i + 1) = s.data.toList.take i ++ [c] ∧ bt s i = (c.toNat : Int) := by
  have hl : i < s.data.toList.length := by rw [Array.length_toList]; exact h
  have h1 : s.data.toList[i]? = some s[i] := by rw [Array.getElem?_toList]; exact Array.getElem?_eq_getElem h
  exact ⟨s[i], h1, by rw [List.drop_eq_getElem_cons hl]; rfl, by rw [List.take_add_one, h1]; rfl, by unfold bt; rw [dif_pos h]⟩

set_option maxHeartbeats 1000000 in
set_option maxRecDepth 100000 in
theorem split_any (s : ByteArray) (c : UInt8) (w : World) (hs : s.size ≤ 140737488355327) :
    Calls Tryz.prog 84 #[.string s, .int .u8 (c.toNat : Int)] w fun e w' => e = .returned (.tuple #[.string ⟨(cutAt c s.data.toList).1.toArray⟩, .string ⟨(cutAt c s.data.toList).2.1.toArray⟩, .bool (cutAt c s.data.toList).2.2]) ∧ Below w.heap.size w w' := by
  have hl : s.data.toList.length = s.size := by rw [Array.length_toList]; rfl
  have HLL := Lib.hid hl
  have HD := Lib.hid (fun i (h : i < s.size) => bt_at h)
  have hb := get_bt s
  have hc := c.toNat_lt
  have HT := Lib.hid (fun i => extract_take s i)
  have HR := Lib.hid (fun i => extract_drop s i)
  clear hl
  go_enter Tryz.func84, Tryz.ntmps84
  go_wp2
  go_loopg [7] s.size (fun gg s7 wr => ∃ i : Nat, i ≤ s.size ∧ s.size - i ≤ gg ∧ s7 = .int .i64 i ∧ wr = w ∧ Hid (cutAt c s.data.toList = (s.data.toList.take i ++ (cutAt c (s.data.toList.drop i)).1, (cutAt c (s.data.toList.drop i)).2)))
  case atStart => exact ⟨0, Nat.zero_le _, by omega, rfl, rfl, by show _ = _; rfl⟩
  case round =>
    obtain ⟨i, hin, hg, rfl, rfl, HC⟩ := hrel
    by_cases hlt : i < s.size
    · have hltz : (i : Int) < (s.size : Int) := by omega
      obtain ⟨x, hx1, hx2, hx3, hx4⟩ := HD.out i hlt
      have hx256 := x.toNat_lt
      have HX2 := Lib.hid hx2
      have HX3 := Lib.hid hx3
      by_cases hxc : x = c
      · subst hxc
        have he : bt s i = (x.toNat : Int) := hx4
        have HF : Hid (cutAt x s.data.toList = (s.data.toList.take i, s.data.toList.drop (i + 1), true)) := by
          show _ = _
          rw [HC.out, HX2.out]
          unfold cutAt
          rw [if_pos rfl, List.append_nil]
        have hle2 : (0 : Int) ≤ (i : Int) + 1 := by omega
        have hle3 : (i : Int) + 1 ≤ (s.size : Int) := by omega
        clear hx1 hx2 hx3 hx4
        go_wp2
        go_region
        go_wp2
        go_ret3
        rw [HF.out]
        exact ⟨by rw [← HT.out i, ← HR.out (i + 1)]; rfl, Below.drew (Below.refl _ _)⟩
      · have he : (bt s i == (c.toNat : Int)) = false := by
          rw [hx4, beq_eq_false_iff_ne]
          intro h
          exact hxc (UInt8.toNat_inj.1 (by omega))
        have HF : Hid (cutAt c s.data.toList = (s.data.toList.take (i + 1) ++ (cutAt c (s.data.toList.drop (i + 1))).1, (cutAt c (s.data.toList.drop (i + 1))).2)) := by
          show _ = _
          rw [HC.out, HX2.out, HX3.out]
          conv => lhs; unfold cutAt
          rw [if_neg hxc]
          simp
        clear hx1 hx2 hx3 hx4
        go_wp2
        go_roundg (s.size - (i + 1))
        case measure => omega
        case rel => exact ⟨i + 1, by omega, by omega, by go_num, rfl, HF⟩
    · have he : i = s.size := by omega
      subst he
      have HF : Hid (cutAt c s.data.toList = (s.data.toList, [], false)) := by
        show _ = _
        rw [HC.out, List.drop_of_length_le (by rw [HLL.out]; exact Nat.le_refl _), List.take_of_length_le (by rw [HLL.out]; exact Nat.le_refl _)]
        simp [cutAt]
      go_wp2
      go_ret3
      rw [HF.out]
      exact ⟨rfl, Below.refl _ _⟩

set_option maxHeartbeats 1000000 in
set_option maxRecDepth 100000 in
theorem trimmed_any (l : List UInt8) (v : Value) (w : World) (h : w.ownsRow 0 5 1 v l.length (Lib.byteCells l)) (hl : l.length ≤ 140737488351232) :
    Calls Tryz.prog 58 #[v] w fun e w' => e = .returned (.string ⟨(trimCR l).toArray⟩) ∧ w' = w := by
  obtain ⟨a, c, rfl⟩ := row_form h
  have hcap : l.length ≤ c := by
    rcases h.2 with ⟨h1, h2⟩ | ⟨g, cap, cur, hv, _, _, h2, _⟩
    · rw [h2]; exact Nat.zero_le _
    · injection hv with _ _ e; rw [e]; exact h2
  rcases List.eq_nil_or_concat l with rfl | ⟨k, b, rfl⟩
  · have hcv := conv_row h
    have hT : Hid (trimCR ([] : List UInt8) = []) := rfl
    clear h
    simp only [List.length_nil] at *
    go_enter Tryz.func58, Tryz.ntmps58
    go_wp2_with fail
    go_ret
    exact ⟨rfl, rfl⟩
  · rw [List.concat_eq_append] at *
    have hlen : (k ++ [b]).length = k.length + 1 := by simp
    have hb := b.toNat_lt
    obtain ⟨g, c', hv, _, hg⟩ := h.form (by omega)
    injection hv with e1 _ e3
    subst e1 e3
    have q0 : w.cell? ⟨g, k.length, none⟩ = some (.int .u8 b.toNat) := by
      have := h.cells (g := g) rfl k.length (.int .u8 b.toNat) (by simp [Lib.byteCells])
      rwa [Addr.add_lit, Nat.zero_add] at this
    have hcv := conv_row h
    have hcv2 : (convert 41 9 (.slice (some ⟨g, 0, none⟩) k.length c)).run Tryz.prog w = .ok (.string ⟨k.toArray⟩) w :=
      run_convert_bytes_back w _ _ 5 ⟨g, 0, none⟩ c k Tryz.underlying41 Tryz.underlying5 Tryz.underlying9 fun j hj =>
        h.cells (g := g) rfl j (.int .u8 k[j].toNat) (by simp only [Lib.byteCells, List.map_append]; rw [List.getElem?_append_left (by simpa using hj)]; simp [hj])
    clear h
    rw [hlen] at hl hcap hcv ⊢
    have hz : (0 : Int) < ((k.length + 1 : Nat) : Int) := by omega
    by_cases hb13 : b = 13
    · have hbb : ((b.toNat : Int) == 13) = true := by rw [hb13]; rfl
      have HT : Hid (trimCR (k ++ [b]) = k) := by show _ = _; unfold trimCR; simp [hb13]
      clear hcv hb13
      go_enter Tryz.func58, Tryz.ntmps58
      go_wp2_with fail
      go_ret
      rw [HT.out]
      exact ⟨rfl, rfl⟩
    · have hbb : ((b.toNat : Int) == 13) = false := by
        rw [beq_eq_false_iff_ne]; intro e; exact hb13 (UInt8.toNat_inj.1 (by have : (13 : UInt8).toNat = 13 := rfl; omega))
      have HT : Hid (trimCR (k ++ [b]) = k ++ [b]) := by show _ = _; unfold trimCR; simp [hb13]
      clear hcv2 hb13
      go_enter Tryz.func58, Tryz.ntmps58
      go_wp2_with fail
      go_ret
      rw [HT.out]
      exact ⟨rfl, rfl⟩

end Go.Proofs.YtdilmefeofdkmaaGreatDoor

/-
  WIRE: the document's Reader: no, anew, Held, all.
-/
namespace Go.Proofs.YtdilmefeofdkmaaGreatDoor
open Go.RowKit

set_option maxHeartbeats 1000000 in
set_option maxRecDepth 100000 in
theorem no_any {w : World} {rd : Nat} {ms : Nat → Prop} {s : QS} {out : List ReqV} (h : RefAt w rd ms s out) (e : Int) :
    Calls Tryz.prog 57 #[.pointer (some ⟨rd, 0, none⟩), .int .i64 e] w fun x w' => x = .returned (.tuple #[]) ∧ RfPost w rd ms (s.no e) out w' := by
  obtain ⟨vo, vl, vf, vb, hI⟩ := h
  have HI := Lib.hid hI
  have q1 : w.cell? ⟨rd, 13, none⟩ = some (.int .i64 s.fault) := cell_of_heap hI.box
  have q2 : w.cell? ⟨rd, 14, none⟩ = some (.bool s.done) := cell_of_heap hI.box
  have f1 : w.frozen? ⟨rd, 13, none⟩ = false := free_of_heap hI.box
  have f2 : w.frozen? ⟨rd, 14, none⟩ = false := free_of_heap hI.box
  clear hI
  go_enter Tryz.func57, Tryz.ntmps57
  go_wp2_with fail
  go_end0
  have h1 := HI.out.set 13 (.int .i64 e) { s with fault := e } rfl rfl rfl rfl
  have h2 := h1.set 14 (.bool true) (s.no e) rfl rfl rfl rfl
  exact ⟨rfl, ms, ⟨_, _, _, _, h2⟩, (HI.out.mvSet 13 _).trans (h1.mvSet 14 _)⟩

/-- what anew writes, cell by cell -/
def anewW (w : World) (rd : Nat) : World := ((((((((((((((w.setCell ⟨rd, 0, none⟩ (.int .i64 0)).setCell ⟨rd, 1, none⟩ (.int .i64 0)).setCell ⟨rd, 2, none⟩ (.int .i64 (-1))).setCell ⟨rd, 3, none⟩ (.bool true)).setCell ⟨rd, 4, none⟩ (.slice none 0 0)).setCell ⟨rd, 5, none⟩ (.slice none 0 0)).setCell ⟨rd, 6, none⟩ (.int .i64 0)).setCell ⟨rd, 16, none⟩ (.bool false)).setCell ⟨rd, 7, none⟩ (.string ⟨#[]⟩)).setCell ⟨rd, 8, none⟩ (.string ⟨#[]⟩)).setCell ⟨rd, 9, none⟩ (.int .i64 0)).setCell ⟨rd, 10, none⟩ (.slice none 0 0)).setCell ⟨rd, 11, none⟩ (.string ⟨#[]⟩)).setCell ⟨rd, 12, none⟩ (.bool false))
theorem anewW_chg (w : World) (rd : Nat) : Chg w (anewW w rd) (fun b => b = rd) := by
  have step : ∀ {W : World} (o : Nat) (v : Value), Chg w W (fun b => b = rd) → Chg w (W.setCell ⟨rd, o, none⟩ v) (fun b => b = rd) := fun {W} o v hc => hc.trans ((Chg.set W ⟨rd, o, none⟩ v).mono (fun _ _ x => x))
  exact step _ _ (step _ _ (step _ _ (step _ _ (step _ _ (step _ _ (step _ _ (step _ _ (step _ _ (step _ _ (step _ _ (step _ _ (step _ _ (step _ _ (Chg.refl _ _))))))))))))))
theorem RefO.anewed {w : World} {rd : Nat} {ms : Nat → Prop} {s : QS} {out : List ReqV} {vo vl vf vb : Value} (h : RefO w rd ms s out vo vl vf vb) :
    RefIn (anewW w rd) rd ms s.anew out vo (.slice none 0 0) (.slice none 0 0) (.slice none 0 0) := by
  refine h.reset ?_ (anewW_chg w rd)
  have := heap_set (x := 12) (heap_set (x := 11) (heap_set (x := 10) (heap_set (x := 9) (heap_set (x := 8) (heap_set (x := 7) (heap_set (x := 16) (heap_set (x := 6) (heap_set (x := 5) (heap_set (x := 4) (heap_set (x := 3) (heap_set (x := 2) (heap_set (x := 1) (heap_set (x := 0) h.box (.int .i64 0)) (.int .i64 0)) (.int .i64 (-1))) (.bool true)) (.slice none 0 0)) (.slice none 0 0)) (.int .i64 0)) (.bool false)) (.string ⟨#[]⟩)) (.string ⟨#[]⟩)) (.int .i64 0)) (.slice none 0 0)) (.string ⟨#[]⟩)) (.bool false)
  refine this.trans ?_
  simp [QS.cells, QS.anew]

set_option maxHeartbeats 4000000 in
set_option maxRecDepth 100000 in
theorem anew_any {w : World} {rd : Nat} {ms : Nat → Prop} {s : QS} {out : List ReqV} {vo vl vf vb : Value} (h : RefO w rd ms s out vo vl vf vb) :
    Calls Tryz.prog 34 #[.pointer (some ⟨rd, 0, none⟩)] w fun x w' => x = .returned (.tuple #[]) ∧ RefIn w' rd ms s.anew out vo (.slice none 0 0) (.slice none 0 0) (.slice none 0 0) ∧ Xv w w' ms ms := by
  have HI := Lib.hid h
  have HA := Lib.hid h.anewed
  have q0 : w.cell? ⟨rd, 0, none⟩ = some (.int .i64 s.inn) := cell_of_heap h.box
  have f0 : w.frozen? ⟨rd, 0, none⟩ = false := free_of_heap h.box
  have q1 : w.cell? ⟨rd, 1, none⟩ = some (.int .i64 s.head) := cell_of_heap h.box
  have f1 : w.frozen? ⟨rd, 1, none⟩ = false := free_of_heap h.box
  have q2 : w.cell? ⟨rd, 2, none⟩ = some (.int .i64 s.target) := cell_of_heap h.box
  have f2 : w.frozen? ⟨rd, 2, none⟩ = false := free_of_heap h.box
  have q3 : w.cell? ⟨rd, 3, none⟩ = some (.bool s.first) := cell_of_heap h.box
  have f3 : w.frozen? ⟨rd, 3, none⟩ = false := free_of_heap h.box
  have q4 : w.cell? ⟨rd, 4, none⟩ = some vl := cell_of_heap h.box
  have f4 : w.frozen? ⟨rd, 4, none⟩ = false := free_of_heap h.box
  have q5 : w.cell? ⟨rd, 5, none⟩ = some vb := cell_of_heap h.box
  have f5 : w.frozen? ⟨rd, 5, none⟩ = false := free_of_heap h.box
  have q6 : w.cell? ⟨rd, 6, none⟩ = some (.int .i64 s.left) := cell_of_heap h.box
  have f6 : w.frozen? ⟨rd, 6, none⟩ = false := free_of_heap h.box
  have q7 : w.cell? ⟨rd, 7, none⟩ = some (.string ⟨s.meth.toArray⟩) := cell_of_heap h.box
  have f7 : w.frozen? ⟨rd, 7, none⟩ = false := free_of_heap h.box
  have q8 : w.cell? ⟨rd, 8, none⟩ = some (.string ⟨s.tgt.toArray⟩) := cell_of_heap h.box
  have f8 : w.frozen? ⟨rd, 8, none⟩ = false := free_of_heap h.box
  have q9 : w.cell? ⟨rd, 9, none⟩ = some (.int .i64 s.minor) := cell_of_heap h.box
  have f9 : w.frozen? ⟨rd, 9, none⟩ = false := free_of_heap h.box
  have q10 : w.cell? ⟨rd, 10, none⟩ = some vf := cell_of_heap h.box
  have f10 : w.frozen? ⟨rd, 10, none⟩ = false := free_of_heap h.box
  have q11 : w.cell? ⟨rd, 11, none⟩ = some (.string ⟨#[]⟩) := cell_of_heap h.box
  have f11 : w.frozen? ⟨rd, 11, none⟩ = false := free_of_heap h.box
  have q12 : w.cell? ⟨rd, 12, none⟩ = some (.bool false) := cell_of_heap h.box
  have f12 : w.frozen? ⟨rd, 12, none⟩ = false := free_of_heap h.box
  have q16 : w.cell? ⟨rd, 16, none⟩ = some (.bool false) := cell_of_heap h.box
  have f16 : w.frozen? ⟨rd, 16, none⟩ = false := free_of_heap h.box
  have HC : Hid (Xv w (anewW w rd) ms ms) := ⟨(anewW_chg w rd).mono fun b _ e => by rw [e]; exact h.rdM, fun _ x => .inl x⟩
  clear h
  go_enter Tryz.func34, Tryz.ntmps34
  go_wp2_with fail
  go_end0
  exact ⟨rfl, HA.out, HC.out⟩

set_option maxHeartbeats 1000000 in
set_option maxRecDepth 100000 in
theorem rHeld_any {w : World} {rd : Nat} {ms : Nat → Prop} {s : QS} {out : List ReqV} (h : RefAt w rd ms s out) (hh : s.done = false → 0 ≤ s.head ∧ s.head ≤ 1000000 ∧ s.body.length ≤ 1000000000 ∧ s.line.length ≤ 1000000000) :
    Calls Tryz.prog 20 #[.pointer (some ⟨rd, 0, none⟩)] w fun x w' => x = .returned (.int .i64 s.held) ∧ ∃ n, w' = w.drewN n := by
  obtain ⟨vo, vl, vf, vb, hI⟩ := h
  obtain ⟨al, cl, rfl⟩ := row_form hI.line
  obtain ⟨ab, cb, rfl⟩ := row_form hI.body
  have q0 : w.cell? ⟨rd, 0, none⟩ = some (.int .i64 s.inn) := cell_of_heap hI.box
  have q1 : w.cell? ⟨rd, 1, none⟩ = some (.int .i64 s.head) := cell_of_heap hI.box
  have q4 : w.cell? ⟨rd, 4, none⟩ = some (.slice al s.line.length cl) := cell_of_heap hI.box
  have q5 : w.cell? ⟨rd, 5, none⟩ = some (.slice ab s.body.length cb) := cell_of_heap hI.box
  have q14 : w.cell? ⟨rd, 14, none⟩ = some (.bool s.done) := cell_of_heap hI.box
  clear hI
  cases hd : s.done
  · rw [hd] at q14
    obtain ⟨h0, h1, hb, hl⟩ := hh hd
    clear hh
    by_cases hi : s.inn = 0
    · have hib : (s.inn == 0) = true := by rw [hi]; rfl
      have HE : Hid (s.held = s.head) := by show _ = _; unfold QS.held; rw [hd]; simp [hi]
      clear hi hd
      go_enter Tryz.func20, Tryz.ntmps20
      go_wp2_with fail
      go_ret
      exact ⟨by rw [HE.out]; rfl, 0, rfl⟩
    · have hib : (s.inn == 0) = false := by rw [beq_eq_false_iff_ne]; exact hi
      have HE : Hid (s.held = s.head + s.body.length + s.line.length) := by show _ = _; unfold QS.held; rw [hd]; simp [hi]
      clear hi hd
      go_enter Tryz.func20, Tryz.ntmps20
      go_wp2_with fail
      go_region
      go_wp2
      go_ret
      exact ⟨by rw [HE.out]; rfl, 1, rfl⟩
  · rw [hd] at q14
    have HE : Hid (s.held = 0) := by show _ = _; unfold QS.held; rw [hd]; rfl
    clear hd
    go_enter Tryz.func20, Tryz.ntmps20
    go_wp2_with fail
    go_ret
    exact ⟨by rw [HE.out]; rfl, 0, rfl⟩

end Go.Proofs.YtdilmefeofdkmaaGreatDoor

/-
  WIRE: the document's Small and all. (Printed by wip/gen/wxsmall.py.)
-/
namespace Go.Proofs.YtdilmefeofdkmaaGreatDoor
open Go.RowKit

set_option maxHeartbeats 2000000 in
set_option maxRecDepth 100000 in
theorem rSmall_any (s : List UInt8) (hs : s.length ≤ 140737488351232) (w : World) :
    Calls Tryz.prog 47 #[.string ⟨s.toArray⟩] w fun e w' => e = .returned (.string ⟨(smallL s).toArray⟩) ∧ Below w.heap.size w w' := by
  have hsz : (⟨s.toArray⟩ : ByteArray).size = s.length := by simp [ByteArray.size]
  have hcv := Lib.run_convert_string_bytes (P := Tryz.prog) w 9 41 5 ⟨s.toArray⟩ (u := .string) Tryz.underlying9 Tryz.underlying41 Tryz.underlying5
  have hB : SmAt (Lib.bytesWorld w 5 ⟨s.toArray⟩) w.heap.size s 0 := fun j hj => by
    refine ⟨?_, ?_⟩
    · rw [Lib.bytesWorld_cell w 5 ⟨s.toArray⟩ j (by rw [hsz]; exact hj)]
      simp [hj]
    · have := Lib.bytesWorld_at_new w 5 ⟨s.toArray⟩
      have hn : s.length ≤ (Lib.bytesCells w 5 ⟨s.toArray⟩).size := by simp [Lib.bytesCells]
      simp only [World.frozen?, this]
      simp; omega
  have hb2 := below_bytesWorld w 5 ⟨s.toArray⟩
  obtain ⟨w2, hw2⟩ : ∃ w2, Lib.bytesWorld w 5 ⟨s.toArray⟩ = w2 := ⟨_, rfl⟩
  rw [hw2] at hcv hB hb2
  have HB := Lib.hid hB
  have HW := Lib.hid hb2
  have hlen : (smallL s).length = s.length := by simp [smallL]
  have HBK : Hid (∀ W cp, SmAt W w.heap.size s s.length → (convert 41 9 (.slice (some ⟨w.heap.size, 0, none⟩) s.length cp)).run Tryz.prog W = .ok (.string ⟨(smallL s).toArray⟩) W) := fun W cp hS => by
    have := run_convert_bytes_back (P := Tryz.prog) W 41 9 5 ⟨w.heap.size, 0, none⟩ cp (smallL s) Tryz.underlying41 Tryz.underlying5 Tryz.underlying9 (fun j hj => by
      rw [hlen] at hj
      rw [Addr.add_lit, Nat.zero_add, (hS j hj).1, if_pos hj]
      simp [smallL])
    rwa [hlen] at this
  clear hB hb2 hw2 hsz
  go_enter Tryz.func47, Tryz.ntmps47
  go_wp2
  go_loopg [4] s.length (fun gg s10 wr => ∃ i : Nat, i ≤ s.length ∧ s.length - i ≤ gg ∧ s10 = .int .i64 i ∧ Hid (SmAt wr w.heap.size s i) ∧ Hid (Below w.heap.size w wr))
  case atStart => exact ⟨0, Nat.zero_le _, by omega, rfl, HB, HW⟩
  case round =>
    obtain ⟨i, hi, hg, rfl, SM, BW⟩ := hrel
    by_cases hlt : i < s.length
    · have hltz : (i : Int) < (s.length : Int) := by omega
      obtain ⟨c0, f0⟩ := SM.out i hlt
      rw [if_neg (by omega)] at c0
      have hb := (s[i]).toNat_lt
      have hv := smallB_int s[i]
      have hset := SM.out.set hlt
      have hskip := fun h => SM.out.skip hlt h
      obtain ⟨b, hbe⟩ : ∃ b, s[i] = b := ⟨_, rfl⟩
      rw [hbe] at c0 hb hv hset hskip
      by_cases h1 : 65 ≤ (b.toNat : Int) ∧ (b.toNat : Int) ≤ 90
      · rw [if_pos h1] at hv
        obtain ⟨h1, h2⟩ := h1
        rw [hv] at hset
        have HS := Lib.hid hset
        clear hset hskip hbe hv
        go_wp2
        go_roundg (s.length - (i + 1))
        case measure => omega
        case rel => exact ⟨i + 1, by omega, by omega, by go_num, HS, Lib.hid (BW.out.setCell (Nat.le_refl _) _)⟩
      · have hsm : smallB b = b := by
          rw [if_neg h1] at hv
          exact UInt8.toNat_inj.1 (by omega)
        have HS := Lib.hid (hskip hsm)
        clear hset hskip hbe hv hsm
        by_cases h2 : 65 ≤ (b.toNat : Int)
        · have h3 : 90 < (b.toNat : Int) := by omega
          clear h1
          go_wp2
          go_roundg (s.length - (i + 1))
          case measure => omega
          case rel => exact ⟨i + 1, by omega, by omega, by go_num, HS, BW⟩
        · have h3 : (b.toNat : Int) < 65 := by omega
          clear h1
          go_wp2
          go_roundg (s.length - (i + 1))
          case measure => omega
          case rel => exact ⟨i + 1, by omega, by omega, by go_num, HS, BW⟩
    · have he : i = s.length := by omega
      subst he
      have hcb := fun cp => HBK.out wr cp SM.out
      clear hcv
      go_wp2
      go_ret
      exact ⟨rfl, BW.out⟩

set_option maxHeartbeats 2000000 in
set_option maxRecDepth 100000 in
theorem rAll_any (rd : Nat) (vf : Value) (fs : List (List UInt8 × List UInt8)) (name : List UInt8) (w : World) (h11 : w.cell? ⟨rd, 10, none⟩ = some vf) (hf : w.ownsRow 0 58 2 vf fs.length (pairCells fs)) (hl : fs.length ≤ 1000000) :
    Calls Tryz.prog 83 #[.pointer (some ⟨rd, 0, none⟩), .string ⟨name.toArray⟩] w fun e w' => ∃ v, e = .returned v ∧ StrsAt w' w.heap.size (valuesL name fs) v ∧ Below w.heap.size w w' := by
  obtain ⟨i0, hi, hz0, hz1, hz2⟩ := info_string
  have hcell : Hid (∀ i f, fs[i]? = some f → ∃ g c, vf = .slice (some ⟨g, 0, none⟩) fs.length c ∧ g < w.heap.size ∧ w.cell? ⟨g, i * 2, none⟩ = some (.string ⟨f.1.toArray⟩) ∧ w.cell? ⟨g, i * 2 + 1, none⟩ = some (.string ⟨f.2.toArray⟩)) := fun i f hif => by
    have hlt := (List.getElem?_eq_some_iff.1 hif).1
    obtain ⟨g, c, hv, _, hg⟩ := hf.form (by omega)
    have k1 := hf.cells (g := g) (by rw [hv]; rfl) _ _ (pair_get hif).1
    have k2 := hf.cells (g := g) (by rw [hv]; rfl) _ _ (pair_get hif).2
    rw [Addr.add_lit, Nat.zero_add] at k1 k2
    exact ⟨g, c, hv, hg, k1, k2⟩
  obtain ⟨a, c, hv⟩ := row_form hf
  have HL := Lib.hid hl
  rw [hv] at h11
  have H11 := Lib.hid h11
  have HV := Lib.hid hv
  clear hf hl hv
  go_enter Tryz.func83, Tryz.ntmps83
  go_wp2
  go_loopg [5, 6] fs.length (fun gg s5 s14 wr => ∃ (i : Nat) (v : Value), i ≤ fs.length ∧ fs.length - i ≤ gg ∧ s14 = .int .i64 i ∧ s5 = v ∧ Hid (StrsAt wr w.heap.size (valuesL name (fs.take i)) v) ∧ Hid (Below w.heap.size w wr))
  case atStart => exact ⟨0, _, Nat.zero_le _, by omega, rfl, rfl, World.ownsRow_nil _ _ _ _, Below.refl _ _⟩
  case round =>
    obtain ⟨i, v5, hin, hg, rfl, h5, SA, BW⟩ := hrel
    obtain ⟨x, n, cc, rfl⟩ : ∃ x n cc, v5 = .slice x n cc := by
      rcases SA.out.2 with ⟨h1, _⟩ | ⟨g, cap, cur, h1, _⟩
      · exact ⟨_, _, _, h1⟩
      · exact ⟨_, _, _, h1⟩
    subst h5
    by_cases hlt : i < fs.length
    · have hltz : (i : Int) < (fs.length : Int) := by omega
      obtain ⟨f, hif⟩ : ∃ f, fs[i]? = some f := ⟨_, List.getElem?_eq_getElem hlt⟩
      obtain ⟨g, c', hv, hgl, k0, k1⟩ := hcell.out i f hif
      have hvt := valuesL_take name fs hif
      have hvl : (valuesL name (fs.take i)).length ≤ 1000000 := Nat.le_trans (valuesL_len _ _) (by rw [List.length_take]; have := HL.out; omega)
      have hv2 := HV.out.symm.trans hv
      injection hv2 with e1 e2 e3
      subst e1 e3
      have q10 := cell_later BW.out H11.out
      have e0 := cell_later BW.out k0
      have e1 := cell_later BW.out k1
      obtain ⟨n1, v1⟩ := f
      simp only at e0 e1 hvt
      have hL := HL.out
      have hsz := BW.out.size
      clear hif hv k0 k1
      by_cases hn : n1 = name
      · rw [if_pos hn] at hvt
        subst hn
        have HVT := Lib.hid hvt
        clear hvt
        go_wp2_with (refine wpList_append_lies _ rfl _ _ 22 rfl w.heap.size 9 i0 _ 1 16 Tryz.underlying22 hi hz0 hz1 hz2 rfl (by decide) _ _ _ rfl (SA.out.alloc _) ⟨wr.heap.size, 0, none⟩ 1 1 [.string ⟨v1.toArray⟩] rfl rfl (fun j u hj => by rw [Addr.add_lit, cell_of_heap (heap_alloc_new _ _)]; simpa using hj) (by simp [Value.oneCell']) (by decide) (by simp only [maxLen]; omega) (by omega) (by simp; omega) _ rfl ?_)
        intro gn cap w2 hown hgr hat hlt2
        have HO : Hid (StrsAt w2 w.heap.size (valuesL n1 (fs.take (i + 1))) (.slice (some ⟨gn, 0, none⟩) ((valuesL n1 (fs.take i)).length + 1) cap)) := by
          show StrsAt _ _ _ _
          unfold StrsAt
          rw [HVT.out]
          simpa [strCs] using hown
        have HB : Hid (Below w.heap.size w w2) := by
          refine (below_alloc BW.out (Nat.le_refl _) _).trans ((Chg.grown hgr).below (by simp; omega) fun k hk => ?_)
          exact (SA.out.lt k hk.symm).1
        clear hown hgr hat
        go_wp2
        go_roundg (fs.length - (i + 1))
        case measure => omega
        case rel => exact ⟨i + 1, _, by omega, by omega, by go_num, rfl, HO, HB⟩
      · rw [if_neg hn, List.append_nil] at hvt
        have hb : (n1 == name) = false := by simpa using hn
        have HO : Hid (StrsAt wr w.heap.size (valuesL name (fs.take (i + 1))) (.slice x n cc)) := by show StrsAt _ _ _ _; rw [hvt]; exact SA.out
        clear hvt
        go_wp2
        go_roundg (fs.length - (i + 1))
        case measure => omega
        case rel => exact ⟨i + 1, _, by omega, by omega, by go_num, rfl, HO.out, BW.out⟩
    · have he : i = fs.length := by omega
      subst he
      have q10 := cell_later BW.out H11.out
      have SA' := SA.out
      rw [List.take_length] at SA'
      have SB := Lib.hid SA'
      clear SA' SA
      go_wp2
      go_ret
      exact ⟨_, rfl, SB.out, BW.out⟩

end Go.Proofs.YtdilmefeofdkmaaGreatDoor
