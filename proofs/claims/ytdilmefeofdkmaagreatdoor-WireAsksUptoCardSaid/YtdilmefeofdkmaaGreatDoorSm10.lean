/-
  SEVERAL SMALL TEXTS IN ONE.
-/
import Derived.Test.YtdilmefeofdkmaaGreatDoorSm6
import Derived.Test.YtdilmefeofdkmaaGreatDoorSm7
import Derived.Test.YtdilmefeofdkmaaGreatDoorWiReq
import Derived.Lib.ItoaLen
/-
  WIRE: what Encode stands on.
-/
namespace Go.Proofs.YtdilmefeofdkmaaGreatDoor
open Go.RowKit

theorem str_app (a b : List UInt8) : (⟨a.toArray⟩ : ByteArray) ++ ⟨b.toArray⟩ = ⟨(a ++ b).toArray⟩ := by apply ByteArray.ext; simp
theorem str4 (a b c d : List UInt8) : (⟨a.toArray⟩ : ByteArray) ++ ⟨b.toArray⟩ ++ ⟨c.toArray⟩ ++ ⟨d.toArray⟩ = ⟨(a ++ b ++ c ++ d).toArray⟩ := by rw [str_app, str_app, str_app]
theorem str3 (a b c : List UInt8) : (⟨a.toArray⟩ : ByteArray) ++ ⟨b.toArray⟩ ++ ⟨c.toArray⟩ = ⟨(a ++ b ++ c).toArray⟩ := by rw [str_app, str_app]
theorem itoa_len30 (n : Int) (h : IntOK n) : (Lib.itoa n).length ≤ 30 := by
  have := Lib.itoa_length_le n h.1 h.2
  omega

def endL : List UInt8 := [13, 10]
def ownB (n : List UInt8) : Bool := [longL, codingL, connL].contains (smallL n)
def hiddenB (b : UInt8) : Bool := b < 32 || b == 127
def badF (f : List UInt8 × List UInt8) : Bool := !allB f.1 nameB || ownB f.1 || f.2.any hiddenB || Lib.trimB f.2 32 != f.2
def fieldT (f : List UInt8 × List UInt8) : List UInt8 := f.1 ++ [58, 32] ++ f.2 ++ [13, 10]
def clT : List UInt8 := [67, 111, 110, 116, 101, 110, 116, 45, 76, 101, 110, 103, 116, 104, 58, 32]
def connT : List UInt8 := [67, 111, 110, 110, 101, 99, 116, 105, 111, 110, 58, 32, 99, 108, 111, 115, 101, 13, 10]
def headT (n : Int) : List UInt8 := [72, 84, 84, 80, 47, 49, 46, 49, 32] ++ Lib.itoa n ++ [32] ++ reasonL n ++ [13, 10]
/-- an answer as it is sent -/
def encodeV (n : Int) (fs : List (List UInt8 × List UInt8)) (body : List UInt8) (bare close : Bool) : Option (List UInt8) :=
  if reasonL n = [] ∨ 1000000 < body.length ∨ (n = 204 ∧ body ≠ []) then none
  else if fs.any badF then none
  else some (headT n ++ fs.flatMap fieldT ++ (if n ≠ 204 then clT ++ Lib.itoa body.length ++ endL else []) ++ (if close then connT else []) ++ endL ++ (if bare then [] else body))

def errE : Option (List UInt8) → Int
  | some _ => 0
  | none => 1

theorem hiddenB_int (b : UInt8) : hiddenB b = (decide ((b.toNat : Int) < 32) || ((b.toNat : Int) == 127)) := by unfold hiddenB; rw [u8_lt, u8_eq]; rfl
set_option maxHeartbeats 1000000 in
theorem hidden1_any (b : UInt8) (w : World) : Calls Tryz.prog 38 #[.int .u8 (b.toNat : Int)] w fun e w' => e = .returned (.bool (hiddenB b)) ∧ w' = w := by
  rw [hiddenB_int]
  have hb := b.toNat_lt
  generalize b.toNat = n at *
  by_cases h : (n : Int) < 32
  · rw [decide_eq_true h]
    go_enter Tryz.func38, Tryz.ntmps38
    go_wp2_with fail
    go_ret
    exact ⟨rfl, rfl⟩
  · rw [decide_eq_false h]
    obtain ⟨x, hx⟩ : ∃ x, ((n : Int) == 127) = x := ⟨_, rfl⟩
    have g : 32 ≤ (n : Int) := by omega
    clear h
    cases x
    · rw [hx]
      go_enter Tryz.func38, Tryz.ntmps38
      go_wp2_with fail
      all_goals first
        | (go_ret; refine ⟨?_, rfl⟩; first | rfl | (simp; done) | (simp [*]; done))
        | (exfalso; simp_all; done)
    · rw [hx]
      have e1 : (n : Int) = 127 := by simpa using hx
      obtain rfl : n = 127 := by omega
      clear e1 hx g hb
      go_enter Tryz.func38, Tryz.ntmps38
      go_wp2_with fail
      go_ret
      exact ⟨rfl, rfl⟩
theorem hidden_any (s : List UInt8) (hs : s.length ≤ 140737488351232) (w : World) (cp : Nat) :
    Calls Tryz.prog 41 #[.slice (some ⟨w.heap.size, 0, none⟩) (⟨s.toArray⟩ : ByteArray).size cp, .func (.func 38) #[] #[]] (Lib.bytesWorld w 5 ⟨s.toArray⟩) fun e w' => e = .returned (.bool (s.any hiddenB)) ∧ Below (Lib.bytesWorld w 5 ⟨s.toArray⟩).heap.size (Lib.bytesWorld w 5 ⟨s.toArray⟩) w' := by
  have hsz : (⟨s.toArray⟩ : ByteArray).size = s.length := by simp [ByteArray.size]
  have hB : ∀ j, j < s.length → (Lib.bytesWorld w 5 ⟨s.toArray⟩).cell? ⟨w.heap.size, 0 + j, none⟩ = some (encB s[j]!) := fun j hj => by
    rw [Nat.zero_add, Lib.bytesWorld_cell w 5 ⟨s.toArray⟩ j (by rw [hsz]; exact hj)]
    simp [encB, hj]
  have := Tryz.slices_ContainsFunc_f41 encB hiddenB 38 #[] (enters_of Tryz.func38 (by kernel_rfl) rfl) w.heap.size 0 s.length cp s (Lib.bytesWorld w 5 ⟨s.toArray⟩)
    (fun W x hW => by
      refine (hidden1_any x W).mono ?_
      rintro e w' ⟨rfl, rfl⟩
      exact ⟨rfl, 0, rfl⟩) (Nat.le_refl _) (by omega) hB
  rw [List.take_length] at this
  rw [hsz]
  refine this.mono ?_
  rintro e w' ⟨rfl, q, rfl⟩
  exact ⟨rfl, belowDrewN (Below.refl _ _) _⟩
theorem trim1_any (s : List UInt8) (hs : s.length ≤ 140737488351232) (w : World) :
    Calls Tryz.prog 42 #[.string ⟨s.toArray⟩, .string ⟨#[32]⟩] w fun e w' => e = .returned (.string ⟨(Lib.trimB s 32).toArray⟩) ∧ Below w.heap.size w w' := by
  refine (Tryz.strings_Trim_one ⟨s.toArray⟩ 32 (by decide) w (by simp [ByteArray.size]; omega)).mono ?_
  rintro e w' ⟨rfl, h⟩
  refine ⟨rfl, ?_⟩
  rcases h with rfl | rfl
  · exact Below.refl _ _
  · exact Below.drew (Below.refl _ _)

def oCells : Array Value := #[.string ⟨longL.toArray⟩, .string ⟨codingL.toArray⟩, .string ⟨connL.toArray⟩]
theorem ownCon_any (M : List UInt8) (B : Nat) (w : World) (hB : w.heap[B]? = some (.cells oCells 9 (0, 0))) :
    Calls Tryz.prog 65 #[.slice (some ⟨B, 0, none⟩) 3 3, .string ⟨M.toArray⟩] w fun e w' => e = .returned (.bool ([longL, codingL, connL].contains M)) ∧ w' = w := by
  have := Tryz.slices_Contains_string B 0 3 3 ([longL, codingL, connL].map fun m => ⟨m.toArray⟩) ⟨M.toArray⟩ w (by decide) (by decide) (fun j hj => by
    have hj5 : j < 3 := hj
    rw [cell_of_heap hB, Nat.zero_add]
    rcases j with _ | _ | _ | j
    · rfl
    · rfl
    · rfl
    · omega)
  rwa [show Lib.containsS (([longL, codingL, connL].map fun m => (⟨m.toArray⟩ : ByteArray)).take 3) ⟨M.toArray⟩ = [longL, codingL, connL].contains M from by
    rw [List.take_of_length_le (by decide)]
    rw [Bool.eq_iff_iff, Lib.containsS_iff, List.mem_map, List.contains_iff_mem]
    constructor
    · rintro ⟨m, hm, he⟩
      have := congrArg (fun x : ByteArray => x.data.toList) he
      simp only at this
      rw [← this]; exact hm
    · intro hm
      exact ⟨M, hm, rfl⟩] at this
set_option maxHeartbeats 1000000 in
set_option maxRecDepth 100000 in
theorem own_any (s : List UInt8) (hs : s.length ≤ 140737488351232) (w : World) :
    Calls Tryz.prog 40 #[.string ⟨s.toArray⟩] w fun e w' => e = .returned (.bool (ownB s)) ∧ Below w.heap.size w w' := by
  have HS := Lib.hid (fun W => small_any s hs W)
  unfold ownB
  generalize smallL s = M at *
  obtain ⟨x, hx⟩ : ∃ x, [longL, codingL, connL].contains M = x := ⟨_, rfl⟩
  have HX := Lib.hid hx
  rw [hx]
  clear hs hx
  obtain ⟨w1, hw1⟩ : ∃ w1, w.alloc (.cells oCells 9) = w1 := ⟨_, rfl⟩
  have HH : Hid (w1.heap[w.heap.size]? = some (.cells oCells 9 (0, 0))) := by show _ = _; rw [← hw1]; exact heap_alloc_new _ _
  have HB0 : Hid (Below w.heap.size w w1) := by rw [← hw1]; exact below_alloc (Below.refl _ _) (Nat.le_refl _) _
  have HW1 := Lib.hid hw1
  clear hw1
  go_enter Tryz.func40, Tryz.ntmps40
  go_wp2_with fail
  refine (show Calls _ _ _ w1 _ → _ from fun h => by rw [← HW1.out] at h; exact h) ?_
  refine (HS.out _).mono ?_
  rintro e w2 ⟨rfl, hb⟩
  have HB2 := Lib.hid hb
  clear hb
  go_wp2_with fail
  refine (ownCon_any M w.heap.size w2 ((HB2.out.block _ (Array.getElem?_eq_some_iff.1 HH.out).1).trans HH.out)).mono ?_
  rintro e w3 ⟨rfl, rfl⟩
  rw [HX.out]
  go_wp2
  go_ret
  exact ⟨rfl, HB0.out.trans (HB2.out.mono HB0.out.size)⟩

/-- the text that is being written: l, of at most N bytes -/
def EncAt (w1 wr : World) (l : List UInt8) (N : Nat) : Prop := (∃ v, WrAt wr (w1.heap.size + 1) w1.heap.size l v ∧ Below w1.heap.size w1 wr) ∧ l.length ≤ N
theorem EncAt.later {w1 wr w2 : World} {l : List UInt8} {N : Nat} (h : EncAt w1 wr l N) (hb : Below wr.heap.size wr w2) : EncAt w1 w2 l N := by
  obtain ⟨⟨v, h1, h2⟩, h3⟩ := h
  exact ⟨⟨v, h1.later hb, h2.trans (hb.mono h2.size)⟩, h3⟩
theorem EncAt.below {w1 wr : World} {l : List UInt8} {N : Nat} (h : EncAt w1 wr l N) : Below w1.heap.size w1 wr := by
  obtain ⟨⟨v, h1, h2⟩, h3⟩ := h
  exact h2
theorem EncAt.eq {w1 wr : World} {l l' : List UInt8} {N N' : Nat} (h : EncAt w1 wr l N) (e : l = l') (hN : N ≤ N') : EncAt w1 wr l' N' := by
  subst e
  exact ⟨h.1, Nat.le_trans h.2 hN⟩
theorem encWrite {w1 wr : World} {l : List UInt8} {N : Nat} (h : EncAt w1 wr l N) (s : List UInt8) (hl : N + s.length ≤ 140737488355328) :
    Calls Tryz.prog 36 #[.pointer (some ⟨w1.heap.size, 0, none⟩), .string ⟨s.toArray⟩] wr fun e w' => e = .returned (.tuple #[.int .i64 s.length, .nilIface]) ∧ EncAt w1 w' (l ++ s) (N + s.length) := by
  obtain ⟨⟨v, h1, h2⟩, h3⟩ := h
  refine (writeString_any _ _ l s v wr h1 (by omega)).mono ?_
  rintro e w' ⟨rfl, v', k1, k2⟩
  exact ⟨rfl, ⟨⟨v', k1, h2.trans (k2.below h1)⟩, by rw [List.length_append]; omega⟩⟩
theorem wp_convert_go {P : Program} {o : Oper} {a : Act} {w : World} {K : Act → World → Prop} {Q : Exit → Act → World → Prop} (t1 t2 : TypeId) (x : Operand) (ho : o.op = .convert t1 t2 x) {v' : Value} {w' : World}
    (hr : (convert t1 t2 (a.eval x)).run P w = .ok v' w') (h : K (a.put o.dst v') w') : o.wp P a w K Q := by
  unfold Oper.wp execOp
  simp only [ho, Sem.run_bind, Sem.run_pure, Result.andThen_ok, hr]
  exact h

theorem ite_len {c : Prop} [Decidable c] {a b : List UInt8} {k : Nat} (h1 : a.length ≤ k) (h2 : b.length ≤ k) : (if c then a else b).length ≤ k := by split <;> assumption
theorem reasonL_len (n : Int) : (reasonL n).length ≤ 40 := by
  unfold reasonL
  repeat (refine ite_len (by decide) ?_)
  decide

end Go.Proofs.YtdilmefeofdkmaaGreatDoor

/-
  WIRE: the methods that take a byte: bytes, chunk, chunkEnd, last, first. (Printed by wip/gen/wim3.py.)
-/
namespace Go.Proofs.YtdilmefeofdkmaaGreatDoor
open Go.RowKit

theorem beq_int_true {a b : Int} (h : a = b) : (a == b) = true := by rw [beq_iff_eq]; exact h
theorem beq_int_false {a b : Int} (h : ¬ a = b) : (a == b) = false := by rw [beq_eq_false_iff_ne]; exact h
theorem toNat_ne {b : UInt8} {n : Nat} (hn : n < 256) (h : ¬ b = UInt8.ofNat n) : ((b.toNat : Int) == (n : Int)) = false := by
  apply beq_int_false
  intro e
  apply h
  apply UInt8.toNat_inj.1
  simp
  omega

set_option maxHeartbeats 2000000 in
set_option maxRecDepth 100000 in
theorem bytes_any {w : World} {rd : Nat} {ms : Own} {s : RS} {out : List ReqV} (h : RdrAt w rd ms s out) (b : UInt8) (hl : s.body.length ≤ 1000000000) (h0 : -1 ≤ s.left) (h1 : s.left ≤ 1000000) (hfl : s.fields.length ≤ 1000000) (ho : out.length ≤ 1000000000) (hsh : ∀ f ∈ s.fields, f.2.length ≤ 140737488351232) :
    Calls Tryz.prog 116 #[.pointer (some ⟨rd, 0, none⟩), .int .u8 b.toNat] w fun x w' => x = .returned (.tuple #[]) ∧ RdPost w rd ms (s.bytes b).1 (out ++ (s.bytes b).2) w' := by
  obtain ⟨i0, hi, hz0, hz1, hz2⟩ := info_byte
  have hb256 := b.toNat_lt
  obtain ⟨vo, vl, vf, vb, hI⟩ := h
  obtain ⟨a, c, rfl⟩ := row_form hI.body
  have K := Lib.hid hI
  have q14 : w.cell? ⟨rd, 14, none⟩ = some (.slice a s.body.length c) := cell_of_heap hI.box
  have hlt := hI.lt
  clear hI
  go_enter Tryz.func116, Tryz.ntmps116
  go_wp2_with (refine wpList_append_lies _ rfl _ _ 41 rfl 0 5 i0 _ 1 1 Tryz.underlying41 hi hz0 hz1 hz2 rfl (by decide) (.slice a s.body.length c) s.body.length (Lib.byteCells s.body) rfl (K.out.body.alloc _) ⟨w.heap.size, 0, none⟩ 1 1 [.int .u8 b.toNat] rfl rfl (fun j u hj => cells_new _ _ _ _ _ (by simpa using hj)) (by simp [Value.oneCell']) (by decide) (by simp only [maxLen]; omega) (by omega) (Nat.zero_le _) _ rfl ?_)
  intro g cap w2 hown hgr hat hlt2
  have hIa := K.out.later (below_alloc (Below.refl _ _) (Nat.le_refl _) (.cells #[.int .u8 b.toNat] 5))
  have hbx := hIa.past hIa.oB hgr
  have q14 : w2.cell? ⟨rd, 14, none⟩ = some (.slice a s.body.length c) := cell_of_heap hbx
  have f14 : w2.frozen? ⟨rd, 14, none⟩ = false := free_of_heap hbx
  have hP := hIa.pushBody (s' := { s with body := s.body ++ [b] }) hown hgr (by rw [World.size_alloc]; exact hat) hlt2 rfl ⟨by simp [RS.put], byteCells_snoc _ _⟩ rfl rfl
  have HP := Lib.hid hP.1
  have HM := Lib.hid ((Mv.refl w ms).trans ((Mv.of_below (below_alloc (Below.refl _ _) (Nat.le_refl _) _)).trans hP.2))
  have HX := Lib.hid hbx
  clear hIa hbx hP hown hgr hat
  have q15 : w2.cell? ⟨rd, 15, none⟩ = some (.int .i64 s.left) := cell_of_heap HX.out
  have f15 : w2.frozen? ⟨rd, 15, none⟩ = false := free_of_heap HX.out
  have h2 := HP.out.set 15 (.int .i64 (s.left - 1)) { s with body := s.body ++ [b], left := s.left - 1 } rfl rfl rfl rfl
  have K2 := Lib.hid h2
  have M2 := Lib.hid (HM.out.trans (HP.out.mvSet 15 (.int .i64 (s.left - 1))))
  clear h2 HM
  by_cases hz : s.left - 1 = 0
  · have hz' := beq_int_true hz
    have HC := Lib.hid (complete_any ⟨_, _, _, _, K2.out⟩ hfl ho hsh)
    have HR : Hid (s.bytes b = RS.complete { s with body := s.body ++ [b], left := s.left - 1 }) := by show _ = _; unfold RS.bytes; simp only; rw [if_pos hz]
    clear hz
    go_wp2_with fail
    refine HC.out.mono ?_
    rintro e w3 ⟨rfl, ms3, r3, m3⟩
    go_wp2_with fail
    go_end0
    rw [HR.out]
    exact ⟨rfl, ms3, r3, M2.out.trans m3⟩
  · have hz' := beq_int_false hz
    have HR : Hid (s.bytes b = ({ s with body := s.body ++ [b], left := s.left - 1 }, [])) := by show _ = _; unfold RS.bytes; simp only; rw [if_neg hz]
    clear hz
    go_wp2_with fail
    go_end0
    rw [HR.out, List.append_nil]
    exact ⟨rfl, _, ⟨_, _, _, _, K2.out⟩, M2.out⟩

set_option maxHeartbeats 2000000 in
set_option maxRecDepth 100000 in
theorem chunk_any {w : World} {rd : Nat} {ms : Own} {s : RS} {out : List ReqV} (h : RdrAt w rd ms s out) (b : UInt8) (hl : s.body.length ≤ 1000000000) (h0 : -1 ≤ s.left) (h1 : s.left ≤ 1000000) :
    Calls Tryz.prog 134 #[.pointer (some ⟨rd, 0, none⟩), .int .u8 b.toNat] w fun x w' => x = .returned (.tuple #[]) ∧ RdPost w rd ms (s.chunk b) out w' := by
  obtain ⟨i0, hi, hz0, hz1, hz2⟩ := info_byte
  have hb256 := b.toNat_lt
  obtain ⟨vo, vl, vf, vb, hI⟩ := h
  obtain ⟨a, c, rfl⟩ := row_form hI.body
  have K := Lib.hid hI
  have q14 : w.cell? ⟨rd, 14, none⟩ = some (.slice a s.body.length c) := cell_of_heap hI.box
  have hlt := hI.lt
  clear hI
  go_enter Tryz.func134, Tryz.ntmps134
  go_wp2_with (refine wpList_append_lies _ rfl _ _ 41 rfl 0 5 i0 _ 1 1 Tryz.underlying41 hi hz0 hz1 hz2 rfl (by decide) (.slice a s.body.length c) s.body.length (Lib.byteCells s.body) rfl (K.out.body.alloc _) ⟨w.heap.size, 0, none⟩ 1 1 [.int .u8 b.toNat] rfl rfl (fun j u hj => cells_new _ _ _ _ _ (by simpa using hj)) (by simp [Value.oneCell']) (by decide) (by simp only [maxLen]; omega) (by omega) (Nat.zero_le _) _ rfl ?_)
  intro g cap w2 hown hgr hat hlt2
  have hIa := K.out.later (below_alloc (Below.refl _ _) (Nat.le_refl _) (.cells #[.int .u8 b.toNat] 5))
  have hbx := hIa.past hIa.oB hgr
  have q14 : w2.cell? ⟨rd, 14, none⟩ = some (.slice a s.body.length c) := cell_of_heap hbx
  have f14 : w2.frozen? ⟨rd, 14, none⟩ = false := free_of_heap hbx
  have hP := hIa.pushBody (s' := { s with body := s.body ++ [b] }) hown hgr (by rw [World.size_alloc]; exact hat) hlt2 rfl ⟨by simp [RS.put], byteCells_snoc _ _⟩ rfl rfl
  have HP := Lib.hid hP.1
  have HM := Lib.hid ((Mv.refl w ms).trans ((Mv.of_below (below_alloc (Below.refl _ _) (Nat.le_refl _) _)).trans hP.2))
  have HX := Lib.hid hbx
  clear hIa hbx hP hown hgr hat
  have q15 : w2.cell? ⟨rd, 15, none⟩ = some (.int .i64 s.left) := cell_of_heap HX.out
  have f15 : w2.frozen? ⟨rd, 15, none⟩ = false := free_of_heap HX.out
  have q0 : w2.cell? ⟨rd, 0, none⟩ = some (nextV rd s.mode) := cell_of_heap HX.out
  have f0 : w2.frozen? ⟨rd, 0, none⟩ = false := free_of_heap HX.out
  have h2 := HP.out.set 15 (.int .i64 (s.left - 1)) { s with body := s.body ++ [b], left := s.left - 1 } rfl rfl rfl rfl
  have K2 := Lib.hid h2
  have M2 := Lib.hid (HM.out.trans (HP.out.mvSet 15 (.int .i64 (s.left - 1))))
  clear h2 HM
  by_cases hz : s.left - 1 = 0
  · have hz' := beq_int_true hz
    have HR : Hid (s.chunk b = { s with body := s.body ++ [b], left := -1, mode := .chunkEnd }) := by show _ = _; unfold RS.chunk; simp only; rw [if_pos hz]
    clear hz
    go_wp2_with fail
    go_end0
    have k3 := K2.out.set 15 (.int .i64 (-1)) { s with body := s.body ++ [b], left := -1 } rfl rfl rfl rfl
    have k4 := k3.set 0 (nextV rd .chunkEnd) { s with body := s.body ++ [b], left := -1, mode := .chunkEnd } rfl rfl rfl rfl
    rw [HR.out]
    exact ⟨rfl, _, ⟨_, _, _, _, k4⟩, (M2.out.trans (K2.out.mvSet 15 _)).trans (k3.mvSet 0 _)⟩
  · have hz' := beq_int_false hz
    have HR : Hid (s.chunk b = { s with body := s.body ++ [b], left := s.left - 1 }) := by show _ = _; unfold RS.chunk; simp only; rw [if_neg hz]
    clear hz
    go_wp2_with fail
    go_end0
    rw [HR.out]
    exact ⟨rfl, _, ⟨_, _, _, _, K2.out⟩, M2.out⟩

set_option maxHeartbeats 2000000 in
set_option maxRecDepth 100000 in
theorem chunkEnd_any {w : World} {rd : Nat} {ms : Own} {s : RS} {out : List ReqV} (h : RdrAt w rd ms s out) (b : UInt8) (hl : s.line.length ≤ 1000000000) :
    Calls Tryz.prog 148 #[.pointer (some ⟨rd, 0, none⟩), .int .u8 b.toNat] w fun x w' => x = .returned (.tuple #[]) ∧ RdPost w rd ms (s.chunkEnd b) out w' := by
  obtain ⟨i0, hi, hz0, hz1, hz2⟩ := info_byte
  have hb256 := b.toNat_lt
  have HF := Lib.hid (fail_any h 63)
  obtain ⟨vo, vl, vf, vb, hI⟩ := h
  obtain ⟨a, c, rfl⟩ := row_form hI.line
  have K := Lib.hid hI
  have q4 : w.cell? ⟨rd, 4, none⟩ = some (.slice a s.line.length c) := cell_of_heap hI.box
  have f4 : w.frozen? ⟨rd, 4, none⟩ = false := free_of_heap hI.box
  have q0 : w.cell? ⟨rd, 0, none⟩ = some (nextV rd s.mode) := cell_of_heap hI.box
  have f0 : w.frozen? ⟨rd, 0, none⟩ = false := free_of_heap hI.box
  have hlt := hI.lt
  have hsl : (Instr.sliceAt 41 (.slice a s.line.length c) none (some (.int .i64 0)) none).run Tryz.prog w = .ok (.slice a 0 c) w := by
    go_simp
  clear hI
  by_cases hb : b = 10
  · subst hb
    have k1 := K.out.line0
    have k2 := k1.set 0 (nextV rd .size) { s with line := [], mode := .size } rfl rfl rfl rfl
    have HR : Hid (s.chunkEnd 10 = { s with line := [], mode := .size }) := by show _ = _; unfold RS.chunkEnd; rw [if_pos rfl]
    have K2 := Lib.hid k2
    have M2 := Lib.hid ((K.out.mvSet 4 (.slice a 0 c)).trans (k1.mvSet 0 (nextV rd .size)))
    clear k1 k2
    go_enter Tryz.func148, Tryz.ntmps148
    go_wp2_with fail
    go_end0
    rw [HR.out]
    exact ⟨rfl, _, ⟨_, _, _, _, K2.out⟩, M2.out⟩
  · have hb1 : ((b.toNat : Int) == 10) = false := toNat_ne (n := 10) (by decide) hb
    by_cases hc : b = 13 ∧ s.line = []
    · obtain ⟨hc1, hc2⟩ := hc
      have hb2 : ((b.toNat : Int) == 13) = true := by rw [hc1]; rfl
      have hln : ((s.line.length : Int) == 0) = true := by rw [hc2]; rfl
      have HR : Hid (s.chunkEnd b = s.put b) := by show _ = _; unfold RS.chunkEnd; rw [if_neg hb, if_pos (by rw [hc1, hc2]; rfl)]
      clear hc1 hc2 hb hsl f4
      go_enter Tryz.func148, Tryz.ntmps148
      go_wp2_with (refine wpList_append_lies _ rfl _ _ 41 rfl 0 5 i0 _ 1 1 Tryz.underlying41 hi hz0 hz1 hz2 rfl (by decide) (.slice a s.line.length c) s.line.length (Lib.byteCells s.line) rfl (K.out.line.alloc _) ⟨w.heap.size, 0, none⟩ 1 1 [.int .u8 b.toNat] rfl rfl (fun j u hj => cells_new _ _ _ _ _ (by simpa using hj)) (by simp [Value.oneCell']) (by decide) (by simp only [maxLen]; omega) (by omega) (Nat.zero_le _) _ rfl ?_)
      intro g cap w2 hown hgr hat hlt2
      have hIa := K.out.later (below_alloc (Below.refl _ _) (Nat.le_refl _) (.cells #[.int .u8 b.toNat] 5))
      have hbx := hIa.past hIa.oL hgr
      have q4 : w2.cell? ⟨rd, 4, none⟩ = some (.slice a s.line.length c) := cell_of_heap hbx
      have f4 : w2.frozen? ⟨rd, 4, none⟩ = false := free_of_heap hbx
      have hP := hIa.pushLine (s' := s.put b) hown hgr (by rw [World.size_alloc]; exact hat) hlt2 rfl ⟨by simp [RS.put], byteCells_snoc _ _⟩ rfl rfl
      have HP := Lib.hid hP.1
      have HM := Lib.hid ((Mv.refl w ms).trans ((Mv.of_below (below_alloc (Below.refl _ _) (Nat.le_refl _) _)).trans hP.2))
      have HX := Lib.hid hbx
      clear hIa hbx hP hown hgr hat
      go_wp2_with fail
      go_end0
      rw [HR.out]
      exact ⟨rfl, _, ⟨_, _, _, _, HP.out⟩, HM.out⟩
    · have HR : Hid (s.chunkEnd b = s.fail 63) := by
        show _ = _
        unfold RS.chunkEnd
        rw [if_neg hb, if_neg]
        intro hx
        apply hc
        simpa using hx
      by_cases hc1 : b = 13
      · have hc2 : ¬ s.line = [] := fun e => hc ⟨hc1, e⟩
        have hb2 : ((b.toNat : Int) == 13) = true := by rw [hc1]; rfl
        have hln : ((s.line.length : Int) == 0) = false := beq_int_false (fun e => hc2 (List.eq_nil_of_length_eq_zero (by omega)))
        clear hc hc1 hc2 hb hsl f4
        go_enter Tryz.func148, Tryz.ntmps148
        go_wp2_with fail
        refine HF.out.mono ?_
        rintro e w3 ⟨rfl, hp⟩
        go_wp2_with fail
        go_end0
        rw [HR.out]
        exact ⟨rfl, hp⟩
      · have hb2 : ((b.toNat : Int) == 13) = false := toNat_ne (n := 13) (by decide) hc1
        clear hc hc1 hb hsl f4
        go_enter Tryz.func148, Tryz.ntmps148
        go_wp2_with fail
        refine HF.out.mono ?_
        rintro e w3 ⟨rfl, hp⟩
        go_wp2_with fail
        go_end0
        rw [HR.out]
        exact ⟨rfl, hp⟩

set_option maxHeartbeats 2000000 in
set_option maxRecDepth 100000 in
theorem last_any {w : World} {rd : Nat} {ms : Own} {s : RS} {out : List ReqV} (h : RdrAt w rd ms s out) (b : UInt8) (hl : s.line.length ≤ 1000000000) (hfl : s.fields.length ≤ 1000000) (ho : out.length ≤ 1000000000) (hsh : ∀ f ∈ s.fields, f.2.length ≤ 140737488351232) :
    Calls Tryz.prog 133 #[.pointer (some ⟨rd, 0, none⟩), .int .u8 b.toNat] w fun x w' => x = .returned (.tuple #[]) ∧ RdPost w rd ms (s.last b).1 (out ++ (s.last b).2) w' := by
  have HC := Lib.hid (chunkLine_any h b hl)
  have HR := Lib.hid (show s.last b = (match s.chunkLine b with | (t, none) => (t, []) | (t, some line) => if line ≠ [] then (t.fail 63, []) else t.complete) from rfl)
  have hff : (s.chunkLine b).1.fields = s.fields := by unfold RS.chunkLine; split; rfl; split <;> rfl
  generalize s.chunkLine b = r at *
  obtain ⟨t, o⟩ := r
  simp only at HC HR hff
  rw [← hff] at hfl hsh
  clear h hl
  go_enter Tryz.func133, Tryz.ntmps133
  go_wp2_with fail
  refine HC.out.mono ?_
  rintro e w1 ⟨rfl, ms1, r1, m1⟩
  have M1 := Lib.hid m1
  cases o with
  | none =>
    simp only [Option.isSome_none, Option.getD_none]
    have R1 := Lib.hid r1
    clear r1 m1
    go_wp2_with fail
    go_end0
    rw [HR.out, List.append_nil]
    exact ⟨rfl, ms1, R1.out, M1.out⟩
  | some line =>
    simp only [Option.isSome_some, Option.getD_some]
    by_cases hn : line = []
    · subst hn
      have HK := Lib.hid (complete_any r1 hfl ho hsh)
      have HR2 : Hid (s.last b = t.complete) := by show _ = _; rw [HR.out]; rfl
      clear r1 m1 HR
      go_wp2_with fail
      refine HK.out.mono ?_
      rintro e w2 ⟨rfl, ms2, r2, m2⟩
      go_wp2_with fail
      go_end0
      rw [HR2.out]
      exact ⟨rfl, ms2, r2, M1.out.trans m2⟩
    · have hb1 : (line == []) = false := by rw [beq_eq_false_iff_ne]; exact hn
      have hb2 : (line != []) = true := by simp [bne, hb1]
      have HK := Lib.hid (fail_any r1 63)
      have HR2 : Hid (s.last b = (t.fail 63, [])) := by show _ = _; rw [HR.out]; simp only; rw [if_pos hn]
      clear r1 m1 HR
      go_wp2_with fail
      refine HK.out.mono ?_
      rintro e w2 ⟨rfl, ms2, r2, m2⟩
      go_wp2_with fail
      go_end0
      rw [HR2.out, List.append_nil]
      exact ⟨rfl, ms2, r2, M1.out.trans m2⟩


end Go.Proofs.YtdilmefeofdkmaaGreatDoor
