/-
  The readers of a record: flag, short, when, seq, of, done: the walks.
-/
import Derived.Test.YtajmkkjlhmeolaaGreatDoorMtText
namespace Go.Proofs.YtajmkkjlhmeolaaGreatDoor
open Go.RowKit

def BoolOut (b : Nat) (x : Bool) (f : Fs) (w : World) (e : Ending) (w' : World) : Prop := e = .returned (.bool x) ∧ InF w' b f ∧ w.grownBy w' (some b)

set_option maxHeartbeats 1000000 in
theorem flag_any (b : Nat) (f : Fs) (w : World) (hG : Glob w) (hb : 9 ≤ b) (h : InF w b f) (hl : f.rest.length ≤ 140737488351232) :
    Calls Tryz.prog 64 #[.pointer (some ⟨b, 0, none⟩)] w (BoolOut b (flagF f).1 (flagF f).2 w) := by
  have HT := Lib.hid (number_field_any b 0 1 f w (by unfold IntOK; omega) (by unfold IntOK; omega) hG hb h hl)
  have HEQ : Hid (flagF f = (decide ((numberF 0 1 f).1 = 1), (numberF 0 1 f).2)) := rfl
  obtain ⟨⟨n, g⟩, hn⟩ : ∃ p, numberF 0 1 f = p := ⟨_, rfl⟩
  rw [hn] at HT HEQ
  simp only at HT HEQ
  clear hn h hG
  go_enter Tryz.func64, Tryz.ntmps64
  go_wp2_with fail
  refine HT.out.mono ?_
  rintro e w1 ⟨rfl, hf1, hg1⟩
  have F1 := Lib.hid hf1
  have G1 := Lib.hid hg1
  clear hf1 hg1
  by_cases h1 : n = 1
  · have hx : (n == 1) = true := by simpa using h1
    clear h1
    go_wp2
    go_ret
    rw [HEQ.out]
    exact ⟨by rw [show decide (n = 1) = true from by simpa using hx]; rfl, F1.out, G1.out⟩
  · have hx : (n == 1) = false := by simpa using h1
    clear h1
    go_wp2
    go_ret
    rw [HEQ.out]
    exact ⟨by rw [show decide (n = 1) = false from by simpa using hx]; rfl, F1.out, G1.out⟩

set_option maxHeartbeats 1000000 in
theorem short_any (b : Nat) (m : Int) (f : Fs) (w : World) (hm : IntOK m) (hG : Glob w) (h : InF w b f) (hl : f.rest.length ≤ 140737488351232) :
    Calls Tryz.prog 61 #[.pointer (some ⟨b, 0, none⟩), .int .i64 m] w (TextOut b (shortF m f).1 (shortF m f).2 w) := by
  have HT := Lib.hid (text_any b f w hG h hl)
  have hlen := (textF_len f).1
  have HEQ : Hid (shortF m f = ((textF f).1, ⟨(textF f).2.rest, (textF f).2.bad || decide (m < (textF f).1.length)⟩)) := rfl
  obtain ⟨⟨t, g⟩, hn⟩ : ∃ p, textF f = p := ⟨_, rfl⟩
  rw [hn] at HT HEQ hlen
  simp only at HT HEQ hlen
  obtain ⟨rest, bad⟩ := g
  obtain ⟨hm1, hm2⟩ := hm
  simp only at HEQ
  clear hn h hG
  go_enter Tryz.func61, Tryz.ntmps61
  go_wp2_with fail
  refine HT.out.mono ?_
  rintro e w1 ⟨rfl, hf1, hg1⟩
  have F1 := Lib.hid hf1
  have G1 := Lib.hid hg1
  have q1 : w1.cell? ⟨b, 1, none⟩ = some (.bool bad) := cell_of_heap hf1
  have g1 : w1.frozen? ⟨b, 1, none⟩ = false := free_of_heap hf1
  clear hf1 hg1
  cases bad with
  | true =>
    go_wp2
    go_ret
    rw [HEQ.out]
    exact ⟨rfl, inF_bad F1.out _, only_set G1.out _ _⟩
  | false =>
    by_cases h1 : m < (t.length : Int)
    · have HB : Hid (decide (m < (t.length : Int)) = true) := decide_eq_true h1
      go_wp2
      go_ret
      rw [HEQ.out, HB.out]
      exact ⟨rfl, inF_bad F1.out _, only_set G1.out _ _⟩
    · have HB : Hid (decide (m < (t.length : Int)) = false) := decide_eq_false h1
      have h2 : (t.length : Int) ≤ m := by omega
      clear h1
      go_wp2
      go_ret
      rw [HEQ.out, HB.out]
      exact ⟨rfl, inF_bad F1.out _, only_set G1.out _ _⟩

set_option maxHeartbeats 1000000 in
theorem when_any (b : Nat) (f : Fs) (w : World) (hG : Glob w) (hb : 9 ≤ b) (h : InF w b f) (hl : f.rest.length ≤ 140737488351232) :
    Calls Tryz.prog 62 #[.pointer (some ⟨b, 0, none⟩)] w (NumOut b (numberF 0 253402300799 f).1 (numberF 0 253402300799 f).2 w) := by
  have HT := Lib.hid (number_field_any b 0 253402300799 f w (by unfold IntOK; omega) (by unfold IntOK; omega) hG hb h hl)
  obtain ⟨⟨n, g⟩, hn⟩ : ∃ p, numberF 0 253402300799 f = p := ⟨_, rfl⟩
  rw [hn] at HT ⊢
  simp only at HT ⊢
  clear hn h hG
  go_enter Tryz.func62, Tryz.ntmps62
  go_wp2_with fail
  refine HT.out.mono ?_
  rintro e w1 ⟨rfl, hf1, hg1⟩
  have F1 := Lib.hid hf1
  have G1 := Lib.hid hg1
  clear hf1 hg1
  go_wp2
  go_ret
  exact ⟨rfl, F1.out, G1.out⟩

set_option maxHeartbeats 1000000 in
theorem seq_any (b : Nat) (f : Fs) (w : World) (hG : Glob w) (hb : 9 ≤ b) (h : InF w b f) (hl : f.rest.length ≤ 140737488351232) :
    Calls Tryz.prog 66 #[.pointer (some ⟨b, 0, none⟩)] w (NumOut b (numberF 1 9007199254740991 f).1 (numberF 1 9007199254740991 f).2 w) := by
  have HT := Lib.hid (number_field_any b 1 9007199254740991 f w (by unfold IntOK; omega) (by unfold IntOK; omega) hG hb h hl)
  obtain ⟨⟨n, g⟩, hn⟩ : ∃ p, numberF 1 9007199254740991 f = p := ⟨_, rfl⟩
  rw [hn] at HT ⊢
  simp only at HT ⊢
  clear hn h hG
  go_enter Tryz.func66, Tryz.ntmps66
  go_wp2_with fail
  refine HT.out.mono ?_
  rintro e w1 ⟨rfl, hf1, hg1⟩
  have F1 := Lib.hid hf1
  have G1 := Lib.hid hg1
  clear hf1 hg1
  go_wp2
  go_ret
  exact ⟨rfl, F1.out, G1.out⟩

set_option maxHeartbeats 1000000 in
theorem of_any (b : Nat) (k : List UInt8) (f : Fs) (w : World) (hf : f.bad = false) (hG : Glob w) (h : InF w b f) (hl : f.rest.length ≤ 140737488351232) :
    Calls Tryz.prog 59 #[.pointer (some ⟨b, 0, none⟩), .string ⟨k.toArray⟩] w (BoolOut b (!(ofF k f).bad) (ofF k f) w) := by
  have HT := Lib.hid (text_any b f w hG h hl)
  have HEQ : Hid (ofF k f = ⟨(textF f).2.rest, (textF f).1 != k⟩) := by show _ = _; unfold ofF; rw [hf]; rfl
  obtain ⟨⟨t, g⟩, hn⟩ : ∃ p, textF f = p := ⟨_, rfl⟩
  rw [hn] at HT HEQ
  obtain ⟨rest, bad⟩ := g
  simp only at HT HEQ
  obtain ⟨r0, b0⟩ := f
  simp only at hf
  subst hf
  have q1 : w.cell? ⟨b, 1, none⟩ = some (.bool false) := cell_of_heap h
  clear hn h hG
  go_enter Tryz.func59, Tryz.ntmps59
  go_wp2_with fail
  refine HT.out.mono ?_
  rintro e w1 ⟨rfl, hf1, hg1⟩
  have F1 := Lib.hid hf1
  have G1 := Lib.hid hg1
  have p1 : w1.cell? ⟨b, 1, none⟩ = some (.bool bad) := cell_of_heap hf1
  have g1 : w1.frozen? ⟨b, 1, none⟩ = false := free_of_heap hf1
  clear hf1 hg1 q1
  by_cases h1 : t = k
  · subst h1
    have HB : Hid ((t != t) = false) := by show _ = _; simp
    go_wp2
    go_ret
    rw [HEQ.out, HB.out]
    exact ⟨rfl, inF_bad F1.out _, only_set G1.out _ _⟩
  · have HB : Hid ((t != k) = true) := by show _ = _; simpa using h1
    have hq : (t == k) = false := by simpa using h1
    clear h1
    go_wp2
    go_ret
    rw [HEQ.out, HB.out]
    exact ⟨rfl, inF_bad F1.out _, only_set G1.out _ _⟩

set_option maxHeartbeats 1000000 in
theorem done_any (b : Nat) (f : Fs) (w : World) (h : InF w b f) :
    Calls Tryz.prog 65 #[.pointer (some ⟨b, 0, none⟩)] w fun e w' => e = .returned (.int .i64 (doneF f)) ∧ w' = w := by
  obtain ⟨rest, bad⟩ := f
  have q0 : w.cell? ⟨b, 0, none⟩ = some (.string ⟨rest.toArray⟩) := cell_of_heap h
  have q1 : w.cell? ⟨b, 1, none⟩ = some (.bool bad) := cell_of_heap h
  clear h
  cases bad with
  | true =>
    go_enter Tryz.func65, Tryz.ntmps65
    go_wp2
    go_ret
    exact ⟨rfl, rfl⟩
  | false =>
    cases rest with
    | nil =>
      go_enter Tryz.func65, Tryz.ntmps65
      go_wp2
      go_ret
      exact ⟨rfl, rfl⟩
    | cons c r =>
      go_enter Tryz.func65, Tryz.ntmps65
      go_wp2
      go_ret
      exact ⟨rfl, rfl⟩

end Go.Proofs.YtajmkkjlhmeolaaGreatDoor
