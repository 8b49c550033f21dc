/-
  WIRE: what Encode stands on.
-/
import Derived.Test.YtdilmefeofdkmaaGreatDoorWiFld
import Derived.Test.YtdilmefeofdkmaaGreatDoorSm11
import Derived.Test.YtdilmefeofdkmaaGreatDoorWiAnsR
import Derived.Test.YtdilmefeofdkmaaGreatDoorWiReq
import Derived.Lib.ItoaLen
namespace Go.Proofs.YtdilmefeofdkmaaGreatDoor
open Go.RowKit

theorem str_app (a b : List UInt8) : (⟨a.toArray⟩ : ByteArray) ++ ⟨b.toArray⟩ = ⟨(a ++ b).toArray⟩ := by apply ByteArray.ext; simp
theorem str4 (a b c d : List UInt8) : (⟨a.toArray⟩ : ByteArray) ++ ⟨b.toArray⟩ ++ ⟨c.toArray⟩ ++ ⟨d.toArray⟩ = ⟨(a ++ b ++ c ++ d).toArray⟩ := by rw [str_app, str_app, str_app]
theorem str3 (a b c : List UInt8) : (⟨a.toArray⟩ : ByteArray) ++ ⟨b.toArray⟩ ++ ⟨c.toArray⟩ = ⟨(a ++ b ++ c).toArray⟩ := by rw [str_app, str_app]
theorem itoa_len30 (n : Int) (h : IntOK n) : (Lib.itoa n).length ≤ 30 := by
  have := Lib.itoa_length_le n h.1 h.2
  omega

def endL : List UInt8 := [13, 10]
def ownB (n : List UInt8) : Bool := [longL, codingL, connL].contains (smallL n)
def hiddenB (b : UInt8) : Bool := b < 32 || b == 127
def badF (f : List UInt8 × List UInt8) : Bool := !allB f.1 nameB || ownB f.1 || f.2.any hiddenB || Lib.trimB f.2 32 != f.2
def fieldT (f : List UInt8 × List UInt8) : List UInt8 := f.1 ++ [58, 32] ++ f.2 ++ [13, 10]
def clT : List UInt8 := [67, 111, 110, 116, 101, 110, 116, 45, 76, 101, 110, 103, 116, 104, 58, 32]
def connT : List UInt8 := [67, 111, 110, 110, 101, 99, 116, 105, 111, 110, 58, 32, 99, 108, 111, 115, 101, 13, 10]
def headT (n : Int) : List UInt8 := [72, 84, 84, 80, 47, 49, 46, 49, 32] ++ Lib.itoa n ++ [32] ++ reasonL n ++ [13, 10]
/-- an answer as it is sent -/
def encodeV (n : Int) (fs : List (List UInt8 × List UInt8)) (body : List UInt8) (bare close : Bool) : Option (List UInt8) :=
  if reasonL n = [] ∨ 1000000 < body.length ∨ (n = 204 ∧ body ≠ []) then none
  else if fs.any badF then none
  else some (headT n ++ fs.flatMap fieldT ++ (if n ≠ 204 then clT ++ Lib.itoa body.length ++ endL else []) ++ (if close then connT else []) ++ endL ++ (if bare then [] else body))

def errE : Option (List UInt8) → Int
  | some _ => 0
  | none => 1

theorem hiddenB_int (b : UInt8) : hiddenB b = (decide ((b.toNat : Int) < 32) || ((b.toNat : Int) == 127)) := by unfold hiddenB; rw [u8_lt, u8_eq]; rfl
set_option maxHeartbeats 1000000 in
theorem hidden1_any (b : UInt8) (w : World) : Calls Tryz.prog 38 #[.int .u8 (b.toNat : Int)] w fun e w' => e = .returned (.bool (hiddenB b)) ∧ w' = w := by
  rw [hiddenB_int]
  have hb := b.toNat_lt
  generalize b.toNat = n at *
  by_cases h : (n : Int) < 32
  · rw [decide_eq_true h]
    go_enter Tryz.func38, Tryz.ntmps38
    go_wp2_with fail
    go_ret
    exact ⟨rfl, rfl⟩
  · rw [decide_eq_false h]
    obtain ⟨x, hx⟩ : ∃ x, ((n : Int) == 127) = x := ⟨_, rfl⟩
    have g : 32 ≤ (n : Int) := by omega
    clear h
    cases x
    · rw [hx]
      go_enter Tryz.func38, Tryz.ntmps38
      go_wp2_with fail
      all_goals first
        | (go_ret; refine ⟨?_, rfl⟩; first | rfl | (simp; done) | (simp [*]; done))
        | (exfalso; simp_all; done)
    · rw [hx]
      have e1 : (n : Int) = 127 := by simpa using hx
      obtain rfl : n = 127 := by omega
      clear e1 hx g hb
      go_enter Tryz.func38, Tryz.ntmps38
      go_wp2_with fail
      go_ret
      exact ⟨rfl, rfl⟩
theorem hidden_any (s : List UInt8) (hs : s.length ≤ 140737488351232) (w : World) (cp : Nat) :
    Calls Tryz.prog 41 #[.slice (some ⟨w.heap.size, 0, none⟩) (⟨s.toArray⟩ : ByteArray).size cp, .func (.func 38) #[] #[]] (Lib.bytesWorld w 5 ⟨s.toArray⟩) fun e w' => e = .returned (.bool (s.any hiddenB)) ∧ Below (Lib.bytesWorld w 5 ⟨s.toArray⟩).heap.size (Lib.bytesWorld w 5 ⟨s.toArray⟩) w' := by
  have hsz : (⟨s.toArray⟩ : ByteArray).size = s.length := by simp [ByteArray.size]
  have hB : ∀ j, j < s.length → (Lib.bytesWorld w 5 ⟨s.toArray⟩).cell? ⟨w.heap.size, 0 + j, none⟩ = some (encB s[j]!) := fun j hj => by
    rw [Nat.zero_add, Lib.bytesWorld_cell w 5 ⟨s.toArray⟩ j (by rw [hsz]; exact hj)]
    simp [encB, hj]
  have := Tryz.slices_ContainsFunc_f41 encB hiddenB 38 #[] (enters_of Tryz.func38 (by kernel_rfl) rfl) w.heap.size 0 s.length cp s (Lib.bytesWorld w 5 ⟨s.toArray⟩)
    (fun W x hW => by
      refine (hidden1_any x W).mono ?_
      rintro e w' ⟨rfl, rfl⟩
      exact ⟨rfl, 0, rfl⟩) (Nat.le_refl _) (by omega) hB
  rw [List.take_length] at this
  rw [hsz]
  refine this.mono ?_
  rintro e w' ⟨rfl, q, rfl⟩
  exact ⟨rfl, belowDrewN (Below.refl _ _) _⟩
theorem trim1_any (s : List UInt8) (hs : s.length ≤ 140737488351232) (w : World) :
    Calls Tryz.prog 42 #[.string ⟨s.toArray⟩, .string ⟨#[32]⟩] w fun e w' => e = .returned (.string ⟨(Lib.trimB s 32).toArray⟩) ∧ Below w.heap.size w w' := by
  refine (Tryz.strings_Trim_one ⟨s.toArray⟩ 32 (by decide) w (by simp [ByteArray.size]; omega)).mono ?_
  rintro e w' ⟨rfl, h⟩
  refine ⟨rfl, ?_⟩
  rcases h with rfl | rfl
  · exact Below.refl _ _
  · exact Below.drew (Below.refl _ _)

def oCells : Array Value := #[.string ⟨longL.toArray⟩, .string ⟨codingL.toArray⟩, .string ⟨connL.toArray⟩]
theorem ownCon_any (M : List UInt8) (B : Nat) (w : World) (hB : w.heap[B]? = some (.cells oCells 9 (0, 0))) :
    Calls Tryz.prog 65 #[.slice (some ⟨B, 0, none⟩) 3 3, .string ⟨M.toArray⟩] w fun e w' => e = .returned (.bool ([longL, codingL, connL].contains M)) ∧ w' = w := by
  have := Tryz.slices_Contains_string B 0 3 3 ([longL, codingL, connL].map fun m => ⟨m.toArray⟩) ⟨M.toArray⟩ w (by decide) (by decide) (fun j hj => by
    have hj5 : j < 3 := hj
    rw [cell_of_heap hB, Nat.zero_add]
    rcases j with _ | _ | _ | j
    · rfl
    · rfl
    · rfl
    · omega)
  rwa [show Lib.containsS (([longL, codingL, connL].map fun m => (⟨m.toArray⟩ : ByteArray)).take 3) ⟨M.toArray⟩ = [longL, codingL, connL].contains M from by
    rw [List.take_of_length_le (by decide)]
    rw [Bool.eq_iff_iff, Lib.containsS_iff, List.mem_map, List.contains_iff_mem]
    constructor
    · rintro ⟨m, hm, he⟩
      have := congrArg (fun x : ByteArray => x.data.toList) he
      simp only at this
      rw [← this]; exact hm
    · intro hm
      exact ⟨M, hm, rfl⟩] at this
set_option maxHeartbeats 1000000 in
set_option maxRecDepth 100000 in
theorem own_any (s : List UInt8) (hs : s.length ≤ 140737488351232) (w : World) :
    Calls Tryz.prog 40 #[.string ⟨s.toArray⟩] w fun e w' => e = .returned (.bool (ownB s)) ∧ Below w.heap.size w w' := by
  have HS := Lib.hid (fun W => small_any s hs W)
  unfold ownB
  generalize smallL s = M at *
  obtain ⟨x, hx⟩ : ∃ x, [longL, codingL, connL].contains M = x := ⟨_, rfl⟩
  have HX := Lib.hid hx
  rw [hx]
  clear hs hx
  obtain ⟨w1, hw1⟩ : ∃ w1, w.alloc (.cells oCells 9) = w1 := ⟨_, rfl⟩
  have HH : Hid (w1.heap[w.heap.size]? = some (.cells oCells 9 (0, 0))) := by show _ = _; rw [← hw1]; exact heap_alloc_new _ _
  have HB0 : Hid (Below w.heap.size w w1) := by rw [← hw1]; exact below_alloc (Below.refl _ _) (Nat.le_refl _) _
  have HW1 := Lib.hid hw1
  clear hw1
  go_enter Tryz.func40, Tryz.ntmps40
  go_wp2_with fail
  refine (show Calls _ _ _ w1 _ → _ from fun h => by rw [← HW1.out] at h; exact h) ?_
  refine (HS.out _).mono ?_
  rintro e w2 ⟨rfl, hb⟩
  have HB2 := Lib.hid hb
  clear hb
  go_wp2_with fail
  refine (ownCon_any M w.heap.size w2 ((HB2.out.block _ (Array.getElem?_eq_some_iff.1 HH.out).1).trans HH.out)).mono ?_
  rintro e w3 ⟨rfl, rfl⟩
  rw [HX.out]
  go_wp2
  go_ret
  exact ⟨rfl, HB0.out.trans (HB2.out.mono HB0.out.size)⟩

/-- the text that is being written: l, of at most N bytes -/
def EncAt (w1 wr : World) (l : List UInt8) (N : Nat) : Prop := (∃ v, WrAt wr (w1.heap.size + 1) w1.heap.size l v ∧ Below w1.heap.size w1 wr) ∧ l.length ≤ N
theorem EncAt.later {w1 wr w2 : World} {l : List UInt8} {N : Nat} (h : EncAt w1 wr l N) (hb : Below wr.heap.size wr w2) : EncAt w1 w2 l N := by
  obtain ⟨⟨v, h1, h2⟩, h3⟩ := h
  exact ⟨⟨v, h1.later hb, h2.trans (hb.mono h2.size)⟩, h3⟩
theorem EncAt.below {w1 wr : World} {l : List UInt8} {N : Nat} (h : EncAt w1 wr l N) : Below w1.heap.size w1 wr := by
  obtain ⟨⟨v, h1, h2⟩, h3⟩ := h
  exact h2
theorem EncAt.eq {w1 wr : World} {l l' : List UInt8} {N N' : Nat} (h : EncAt w1 wr l N) (e : l = l') (hN : N ≤ N') : EncAt w1 wr l' N' := by
  subst e
  exact ⟨h.1, Nat.le_trans h.2 hN⟩
theorem encWrite {w1 wr : World} {l : List UInt8} {N : Nat} (h : EncAt w1 wr l N) (s : List UInt8) (hl : N + s.length ≤ 140737488355328) :
    Calls Tryz.prog 36 #[.pointer (some ⟨w1.heap.size, 0, none⟩), .string ⟨s.toArray⟩] wr fun e w' => e = .returned (.tuple #[.int .i64 s.length, .nilIface]) ∧ EncAt w1 w' (l ++ s) (N + s.length) := by
  obtain ⟨⟨v, h1, h2⟩, h3⟩ := h
  refine (writeString_any _ _ l s v wr h1 (by omega)).mono ?_
  rintro e w' ⟨rfl, v', k1, k2⟩
  exact ⟨rfl, ⟨⟨v', k1, h2.trans (k2.below h1)⟩, by rw [List.length_append]; omega⟩⟩
theorem wp_convert_go {P : Program} {o : Oper} {a : Act} {w : World} {K : Act → World → Prop} {Q : Exit → Act → World → Prop} (t1 t2 : TypeId) (x : Operand) (ho : o.op = .convert t1 t2 x) {v' : Value} {w' : World}
    (hr : (convert t1 t2 (a.eval x)).run P w = .ok v' w') (h : K (a.put o.dst v') w') : o.wp P a w K Q := by
  unfold Oper.wp execOp
  simp only [ho, Sem.run_bind, Sem.run_pure, Result.andThen_ok, hr]
  exact h

theorem ite_len {c : Prop} [Decidable c] {a b : List UInt8} {k : Nat} (h1 : a.length ≤ k) (h2 : b.length ≤ k) : (if c then a else b).length ≤ k := by split <;> assumption
theorem reasonL_len (n : Int) : (reasonL n).length ≤ 40 := by
  unfold reasonL
  repeat (refine ite_len (by decide) ?_)
  decide

end Go.Proofs.YtdilmefeofdkmaaGreatDoor
