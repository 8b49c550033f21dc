/-
  SEVERAL SMALL TEXTS IN ONE.
-/
import Derived.Test.YtajmkkjlhmeolaaGreatDoorMtKeys
import Derived.Test.YtajmkkjlhmeolaaGreatDoorMtText
import Derived.Deep.RegionHeld3
import Derived.Deep.DeepCutAuto
import Derived.Deep.CutBlock
import Derived.Laws.Rows
/-
  '==' of places.
-/
namespace Go.Proofs.YtajmkkjlhmeolaaGreatDoor
open Go.RowKit

deriving instance DecidableEq for PlaceV
theorem bytes_beq (a b : ByteArray) : (a == b) = decide (a = b) := by
  cases a with | mk x => cases b with | mk y => show (x == y) = _; rw [Bool.eq_iff_iff, beq_iff_eq, decide_eq_true_iff]; simp
theorem str_beq (x y : List UInt8) : ((⟨x.toArray⟩ : ByteArray) == ⟨y.toArray⟩) = decide (x = y) := by
  rw [bytes_beq]; congr 1; simp

abbrev PlaceV.ag (p : PlaceV) : Value := .agg #[.int .u8 p.kind, .string ⟨p.bucket.toArray⟩, .string ⟨p.key.toArray⟩, .int .i64 p.seq, .int .i64 p.num]

theorem eqin_place (p q : PlaceV) (w : World) : (Op.equalIn 10000 25 p.ag q.ag).run Tryz.prog w = .ok (decide (p = q)) w := by
  have hS : Tryz.prog.underlying 25 = some (.struct (Tryz.prog.fieldsOf 25)) := by kernel_rfl
  have hp : Tryz.prog.stoodInHeld 25 = false := by kernel_rfl
  rw [show (10000 : Nat) = 9999 + 1 from rfl, run_equalIn_agg w 9999 25 _ _ hS hp]
  simp only [Program.fieldsOf, Tryz.underlying25]
  obtain ⟨k, b, n, s, m⟩ := p
  obtain ⟨k', b', n', s', m'⟩ := q
  by_cases h1 : k = k'
  · subst h1
    by_cases h2 : b = b'
    · subst h2
      by_cases h3 : n = n'
      · subst h3
        by_cases h4 : s = s'
        · subst h4
          by_cases h5 : m = m'
          · subst h5
            go_simp
          · have e : (m == m') = false := by rw [beq_eq_false_iff_ne]; exact h5
            go_simp
        · have e : (s == s') = false := by rw [beq_eq_false_iff_ne]; exact h4
          go_simp
      · have e : ((⟨n.toArray⟩ : ByteArray) == ⟨n'.toArray⟩) = false := by rw [str_beq]; simp [h3]
        go_simp
    · have e : ((⟨b.toArray⟩ : ByteArray) == ⟨b'.toArray⟩) = false := by rw [str_beq]; simp [h2]
      go_simp
  · have e : (k == k') = false := by rw [beq_eq_false_iff_ne]; exact h1
    go_simp
theorem neq_place (p q : PlaceV) (w : World) : (binOp .neq 25 p.ag q.ag).run Tryz.prog w = .ok (.bool (!decide (p = q))) w := by
  rw [run_neq_struct, eqin_place]; rfl
theorem eql_place (p q : PlaceV) (w : World) : (binOp .eql 25 p.ag q.ag).run Tryz.prog w = .ok (.bool (decide (p = q))) w := by
  rw [run_eql_struct, eqin_place]; rfl

end Go.Proofs.YtajmkkjlhmeolaaGreatDoor

/-
  Place.key: the walk.
-/
namespace Go.Proofs.YtajmkkjlhmeolaaGreatDoor
open Go.RowKit Go.Lib

def PlaceV.OK (p : PlaceV) : Prop := IntOK p.seq ∧ IntOK p.num ∧ p.bucket.length ≤ 140737488355328 ∧ p.key.length ≤ 140737488355328

set_option maxHeartbeats 4000000 in
set_option maxRecDepth 100000 in
theorem placeKey_any (p : PlaceV) (hok : p.OK) (w : World) (hG : GlobK w) : Calls Tryz.prog 52 #[.agg p.cells] w (StrOut (placeKeyL p) w) := by
  obtain ⟨kd, b, k, q, m⟩ := p
  obtain ⟨o1, o2, o3, o4⟩ := hok
  simp only at o1 o2 o3 o4
  simp only [PlaceV.cells]
  have HG : Hid (∀ W, Below w.heap.size w W → GlobK W) := fun W hW => hG.later hW
  obtain ⟨R, hR⟩ : ∃ R, Hid (placeKeyL ⟨kd, b, k, q, m⟩ = R) := ⟨_, rfl⟩
  have HR : Hid (R = if kd = 98 then bucketKeyL b else if kd = 118 then versionKeyL b k q else if kd = 117 then keyL [117, 47] q else if kd = 112 then partKeyL q m else if kd = 100 then keyL [100, 47] q else [110]) := hR.out.symm
  rw [hR.out]
  have BA : Hid (Below w.heap.size w (w.alloc (.cells #[.int .u8 kd, .string ⟨b.toArray⟩, .string ⟨k.toArray⟩, .int .i64 q, .int .i64 m] 25))) := below_alloc (Below.refl _ _) (Nat.le_refl _) _
  have c1 := Lib.hid (fun W (hW : Below w.heap.size w W) => bucketKey_any b o3 W (HG.out W hW))
  have c2 := Lib.hid (fun W (hW : Below w.heap.size w W) => versionKey_any b k q o3 o4 o1 W (HG.out W hW))
  have c3 := Lib.hid (fun W (hW : Below w.heap.size w W) => uploadKey_any q o1 W (HG.out W hW).g)
  have c4 := Lib.hid (fun W (hW : Below w.heap.size w W) => partKey_any q m o1 o2 W (HG.out W hW).g)
  have c5 := Lib.hid (fun W (hW : Below w.heap.size w W) => blobKey_any q o1 W (HG.out W hW).g)
  clear hG o1 o2 o3 o4
  by_cases h98 : kd = 98
  · subst h98
    rw [if_pos rfl] at HR
    rw [← HR.out] at c1
    go_enter Tryz.func52, Tryz.ntmps52
    go_wp2_with fail
    refine (c1.out _ BA.out).mono ?_
    rintro e w1 ⟨rfl, hb1⟩
    have B1 : Hid (Below w.heap.size w w1) := BA.out.trans (hb1.mono BA.out.size)
    clear hb1
    go_wp2
    go_ret
    exact ⟨rfl, B1.out⟩
  · have e98 : (kd == 98) = false := by rw [beq_eq_false_iff_ne]; exact h98
    by_cases h118 : kd = 118
    · subst h118
      rw [if_neg (by decide), if_pos rfl] at HR
      rw [← HR.out] at c2
      go_enter Tryz.func52, Tryz.ntmps52
      go_wp2_with fail
      refine (c2.out _ BA.out).mono ?_
      rintro e w1 ⟨rfl, hb1⟩
      have B1 : Hid (Below w.heap.size w w1) := BA.out.trans (hb1.mono BA.out.size)
      clear hb1
      go_wp2
      go_ret
      exact ⟨rfl, B1.out⟩
    · have e118 : (kd == 118) = false := by rw [beq_eq_false_iff_ne]; exact h118
      by_cases h117 : kd = 117
      · subst h117
        rw [if_neg (by decide), if_neg (by decide), if_pos rfl] at HR
        rw [← HR.out] at c3
        go_enter Tryz.func52, Tryz.ntmps52
        go_wp2_with fail
        refine (c3.out _ BA.out).mono ?_
        rintro e w1 ⟨rfl, hb1⟩
        have B1 : Hid (Below w.heap.size w w1) := BA.out.trans (hb1.mono BA.out.size)
        clear hb1
        go_wp2
        go_ret
        exact ⟨rfl, B1.out⟩
      · have e117 : (kd == 117) = false := by rw [beq_eq_false_iff_ne]; exact h117
        by_cases h112 : kd = 112
        · subst h112
          rw [if_neg (by decide), if_neg (by decide), if_neg (by decide), if_pos rfl] at HR
          rw [← HR.out] at c4
          go_enter Tryz.func52, Tryz.ntmps52
          go_wp2_with fail
          refine (c4.out _ BA.out).mono ?_
          rintro e w1 ⟨rfl, hb1⟩
          have B1 : Hid (Below w.heap.size w w1) := BA.out.trans (hb1.mono BA.out.size)
          clear hb1
          go_wp2
          go_ret
          exact ⟨rfl, B1.out⟩
        · have e112 : (kd == 112) = false := by rw [beq_eq_false_iff_ne]; exact h112
          by_cases h100 : kd = 100
          · subst h100
            rw [if_neg (by decide), if_neg (by decide), if_neg (by decide), if_neg (by decide), if_pos rfl] at HR
            rw [← HR.out] at c5
            go_enter Tryz.func52, Tryz.ntmps52
            go_wp2_with fail
            refine (c5.out _ BA.out).mono ?_
            rintro e w1 ⟨rfl, hb1⟩
            have B1 : Hid (Below w.heap.size w w1) := BA.out.trans (hb1.mono BA.out.size)
            clear hb1
            go_wp2
            go_ret
            exact ⟨rfl, B1.out⟩
          · have e100 : (kd == 100) = false := by rw [beq_eq_false_iff_ne]; exact h100
            rw [if_neg h98, if_neg h118, if_neg h117, if_neg h112, if_neg h100] at HR
            clear h98 h118 h117 h112 h100
            go_enter Tryz.func52, Tryz.ntmps52
            go_wp2_with fail
            refine (seqKey_any _).mono ?_
            rintro e w1 ⟨rfl, hb1⟩
            have B1 : Hid (Below w.heap.size w w1) := BA.out.trans (hb1.mono BA.out.size)
            clear hb1
            go_wp2
            go_ret
            rw [HR.out]
            exact ⟨rfl, B1.out⟩

end Go.Proofs.YtajmkkjlhmeolaaGreatDoor

/-
  The readers of a record: flag, short, when, seq, of, done: the walks.
-/
namespace Go.Proofs.YtajmkkjlhmeolaaGreatDoor
open Go.RowKit

def BoolOut (b : Nat) (x : Bool) (f : Fs) (w : World) (e : Ending) (w' : World) : Prop := e = .returned (.bool x) ∧ InF w' b f ∧ w.grownBy w' (some b)

set_option maxHeartbeats 1000000 in
theorem flag_any (b : Nat) (f : Fs) (w : World) (hG : Glob w) (hb : 9 ≤ b) (h : InF w b f) (hl : f.rest.length ≤ 140737488351232) :
    Calls Tryz.prog 64 #[.pointer (some ⟨b, 0, none⟩)] w (BoolOut b (flagF f).1 (flagF f).2 w) := by
  have HT := Lib.hid (number_field_any b 0 1 f w (by unfold IntOK; omega) (by unfold IntOK; omega) hG hb h hl)
  have HEQ : Hid (flagF f = (decide ((numberF 0 1 f).1 = 1), (numberF 0 1 f).2)) := rfl
  obtain ⟨⟨n, g⟩, hn⟩ : ∃ p, numberF 0 1 f = p := ⟨_, rfl⟩
  rw [hn] at HT HEQ
  simp only at HT HEQ
  clear hn h hG
  go_enter Tryz.func64, Tryz.ntmps64
  go_wp2_with fail
  refine HT.out.mono ?_
  rintro e w1 ⟨rfl, hf1, hg1⟩
  have F1 := Lib.hid hf1
  have G1 := Lib.hid hg1
  clear hf1 hg1
  by_cases h1 : n = 1
  · have hx : (n == 1) = true := by simpa using h1
    clear h1
    go_wp2
    go_ret
    rw [HEQ.out]
    exact ⟨by rw [show decide (n = 1) = true from by simpa using hx]; rfl, F1.out, G1.out⟩
  · have hx : (n == 1) = false := by simpa using h1
    clear h1
    go_wp2
    go_ret
    rw [HEQ.out]
    exact ⟨by rw [show decide (n = 1) = false from by simpa using hx]; rfl, F1.out, G1.out⟩

set_option maxHeartbeats 1000000 in
theorem short_any (b : Nat) (m : Int) (f : Fs) (w : World) (hm : IntOK m) (hG : Glob w) (h : InF w b f) (hl : f.rest.length ≤ 140737488351232) :
    Calls Tryz.prog 61 #[.pointer (some ⟨b, 0, none⟩), .int .i64 m] w (TextOut b (shortF m f).1 (shortF m f).2 w) := by
  have HT := Lib.hid (text_any b f w hG h hl)
  have hlen := (textF_len f).1
  have HEQ : Hid (shortF m f = ((textF f).1, ⟨(textF f).2.rest, (textF f).2.bad || decide (m < (textF f).1.length)⟩)) := rfl
  obtain ⟨⟨t, g⟩, hn⟩ : ∃ p, textF f = p := ⟨_, rfl⟩
  rw [hn] at HT HEQ hlen
  simp only at HT HEQ hlen
  obtain ⟨rest, bad⟩ := g
  obtain ⟨hm1, hm2⟩ := hm
  simp only at HEQ
  clear hn h hG
  go_enter Tryz.func61, Tryz.ntmps61
  go_wp2_with fail
  refine HT.out.mono ?_
  rintro e w1 ⟨rfl, hf1, hg1⟩
  have F1 := Lib.hid hf1
  have G1 := Lib.hid hg1
  have q1 : w1.cell? ⟨b, 1, none⟩ = some (.bool bad) := cell_of_heap hf1
  have g1 : w1.frozen? ⟨b, 1, none⟩ = false := free_of_heap hf1
  clear hf1 hg1
  cases bad with
  | true =>
    go_wp2
    go_ret
    rw [HEQ.out]
    exact ⟨rfl, inF_bad F1.out _, only_set G1.out _ _⟩
  | false =>
    by_cases h1 : m < (t.length : Int)
    · have HB : Hid (decide (m < (t.length : Int)) = true) := decide_eq_true h1
      go_wp2
      go_ret
      rw [HEQ.out, HB.out]
      exact ⟨rfl, inF_bad F1.out _, only_set G1.out _ _⟩
    · have HB : Hid (decide (m < (t.length : Int)) = false) := decide_eq_false h1
      have h2 : (t.length : Int) ≤ m := by omega
      clear h1
      go_wp2
      go_ret
      rw [HEQ.out, HB.out]
      exact ⟨rfl, inF_bad F1.out _, only_set G1.out _ _⟩

set_option maxHeartbeats 1000000 in
theorem when_any (b : Nat) (f : Fs) (w : World) (hG : Glob w) (hb : 9 ≤ b) (h : InF w b f) (hl : f.rest.length ≤ 140737488351232) :
    Calls Tryz.prog 62 #[.pointer (some ⟨b, 0, none⟩)] w (NumOut b (numberF 0 253402300799 f).1 (numberF 0 253402300799 f).2 w) := by
  have HT := Lib.hid (number_field_any b 0 253402300799 f w (by unfold IntOK; omega) (by unfold IntOK; omega) hG hb h hl)
  obtain ⟨⟨n, g⟩, hn⟩ : ∃ p, numberF 0 253402300799 f = p := ⟨_, rfl⟩
  rw [hn] at HT ⊢
  simp only at HT ⊢
  clear hn h hG
  go_enter Tryz.func62, Tryz.ntmps62
  go_wp2_with fail
  refine HT.out.mono ?_
  rintro e w1 ⟨rfl, hf1, hg1⟩
  have F1 := Lib.hid hf1
  have G1 := Lib.hid hg1
  clear hf1 hg1
  go_wp2
  go_ret
  exact ⟨rfl, F1.out, G1.out⟩

set_option maxHeartbeats 1000000 in
theorem seq_any (b : Nat) (f : Fs) (w : World) (hG : Glob w) (hb : 9 ≤ b) (h : InF w b f) (hl : f.rest.length ≤ 140737488351232) :
    Calls Tryz.prog 66 #[.pointer (some ⟨b, 0, none⟩)] w (NumOut b (numberF 1 9007199254740991 f).1 (numberF 1 9007199254740991 f).2 w) := by
  have HT := Lib.hid (number_field_any b 1 9007199254740991 f w (by unfold IntOK; omega) (by unfold IntOK; omega) hG hb h hl)
  obtain ⟨⟨n, g⟩, hn⟩ : ∃ p, numberF 1 9007199254740991 f = p := ⟨_, rfl⟩
  rw [hn] at HT ⊢
  simp only at HT ⊢
  clear hn h hG
  go_enter Tryz.func66, Tryz.ntmps66
  go_wp2_with fail
  refine HT.out.mono ?_
  rintro e w1 ⟨rfl, hf1, hg1⟩
  have F1 := Lib.hid hf1
  have G1 := Lib.hid hg1
  clear hf1 hg1
  go_wp2
  go_ret
  exact ⟨rfl, F1.out, G1.out⟩

set_option maxHeartbeats 1000000 in
theorem of_any (b : Nat) (k : List UInt8) (f : Fs) (w : World) (hf : f.bad = false) (hG : Glob w) (h : InF w b f) (hl : f.rest.length ≤ 140737488351232) :
    Calls Tryz.prog 59 #[.pointer (some ⟨b, 0, none⟩), .string ⟨k.toArray⟩] w (BoolOut b (!(ofF k f).bad) (ofF k f) w) := by
  have HT := Lib.hid (text_any b f w hG h hl)
  have HEQ : Hid (ofF k f = ⟨(textF f).2.rest, (textF f).1 != k⟩) := by show _ = _; unfold ofF; rw [hf]; rfl
  obtain ⟨⟨t, g⟩, hn⟩ : ∃ p, textF f = p := ⟨_, rfl⟩
  rw [hn] at HT HEQ
  obtain ⟨rest, bad⟩ := g
  simp only at HT HEQ
  obtain ⟨r0, b0⟩ := f
  simp only at hf
  subst hf
  have q1 : w.cell? ⟨b, 1, none⟩ = some (.bool false) := cell_of_heap h
  clear hn h hG
  go_enter Tryz.func59, Tryz.ntmps59
  go_wp2_with fail
  refine HT.out.mono ?_
  rintro e w1 ⟨rfl, hf1, hg1⟩
  have F1 := Lib.hid hf1
  have G1 := Lib.hid hg1
  have p1 : w1.cell? ⟨b, 1, none⟩ = some (.bool bad) := cell_of_heap hf1
  have g1 : w1.frozen? ⟨b, 1, none⟩ = false := free_of_heap hf1
  clear hf1 hg1 q1
  by_cases h1 : t = k
  · subst h1
    have HB : Hid ((t != t) = false) := by show _ = _; simp
    go_wp2
    go_ret
    rw [HEQ.out, HB.out]
    exact ⟨rfl, inF_bad F1.out _, only_set G1.out _ _⟩
  · have HB : Hid ((t != k) = true) := by show _ = _; simpa using h1
    have hq : (t == k) = false := by simpa using h1
    clear h1
    go_wp2
    go_ret
    rw [HEQ.out, HB.out]
    exact ⟨rfl, inF_bad F1.out _, only_set G1.out _ _⟩

set_option maxHeartbeats 1000000 in
theorem done_any (b : Nat) (f : Fs) (w : World) (h : InF w b f) :
    Calls Tryz.prog 65 #[.pointer (some ⟨b, 0, none⟩)] w fun e w' => e = .returned (.int .i64 (doneF f)) ∧ w' = w := by
  obtain ⟨rest, bad⟩ := f
  have q0 : w.cell? ⟨b, 0, none⟩ = some (.string ⟨rest.toArray⟩) := cell_of_heap h
  have q1 : w.cell? ⟨b, 1, none⟩ = some (.bool bad) := cell_of_heap h
  clear h
  cases bad with
  | true =>
    go_enter Tryz.func65, Tryz.ntmps65
    go_wp2
    go_ret
    exact ⟨rfl, rfl⟩
  | false =>
    cases rest with
    | nil =>
      go_enter Tryz.func65, Tryz.ntmps65
      go_wp2
      go_ret
      exact ⟨rfl, rfl⟩
    | cons c r =>
      go_enter Tryz.func65, Tryz.ntmps65
      go_wp2
      go_ret
      exact ⟨rfl, rfl⟩

end Go.Proofs.YtajmkkjlhmeolaaGreatDoor

/-
  READING A RECORD: what holds while it is read; the data of parts, uploads, versions, buckets.
-/
namespace Go.Proofs.YtajmkkjlhmeolaaGreatDoor
open Go.RowKit

theorem Glob.nine {w : World} (h : Glob w) : 9 ≤ w.heap.size := by
  have := World.block_lt_of_cell? w _ h.tz
  simp only at this
  omega

/-- while a record is read: b the block of the fields, the result's box still holds zc -/
structure RdAt (w wk : World) (b : Nat) (f : Fs) (zc : Array Value) (zt : TypeId) : Prop where
  inf : InF wk b f
  glob : Glob wk
  below : Below w.heap.size w wk
  hb : b = w.heap.size + 1
  nine : 9 ≤ w.heap.size
  rb : wk.heap[w.heap.size]? = some (.cells zc zt (0, 0))
theorem RdAt.next {w wk w' : World} {b : Nat} {f f' : Fs} {zc : Array Value} {zt : TypeId} (h : RdAt w wk b f zc zt) (hf : InF w' b f') (hg : wk.grownBy w' (some b)) : RdAt w w' b f' zc zt :=
  ⟨hf, h.glob.only hg (by have := h.hb; have := h.nine; omega) h.inf.lt, h.below.trans (below_only hg (by have := h.hb; omega) h.below.size), h.hb, h.nine,
    (hg.block _ (by have := h.inf.lt; have := h.hb; omega) (fun e => by injection e; have := h.hb; omega)).trans h.rb⟩
theorem RdAt.later {w wk w' : World} {b : Nat} {f : Fs} {zc : Array Value} {zt : TypeId} (h : RdAt w wk b f zc zt) (hb : Below wk.heap.size wk w') : RdAt w w' b f zc zt :=
  ⟨h.inf.later hb, h.glob.later hb, h.below.trans (hb.mono h.below.size), h.hb, h.nine, (hb.block _ (by have := h.inf.lt; have := h.hb; omega)).trans h.rb⟩
theorem RdAt.big {w wk : World} {b : Nat} {f : Fs} {zc : Array Value} {zt : TypeId} (h : RdAt w wk b f zc zt) : 9 ≤ b := by have := h.hb; have := h.nine; omega
theorem RdAt.setRow {w wk : World} {b : Nat} {f : Fs} {zc : Array Value} {zt : TypeId} (h : RdAt w wk b f zc zt) {g : Nat} (new : Array Value) (hg : w.heap.size + 1 < g) : RdAt w (wk.setRow g new) b f zc zt :=
  ⟨(setRow_other _ _ _ _ (by have := h.hb; omega)).trans h.inf, h.glob.under (Nat.le_refl _) (below_one_row _ _ _ _ _ (Below.refl _ _) (by have := h.nine; omega)), below_one_row _ _ _ _ _ h.below (by omega), h.hb, h.nine, (setRow_other _ _ _ _ (by omega)).trans h.rb⟩
theorem RdAt.start {w : World} (hG : Glob w) (s : List UInt8) (zc : Array Value) (zt : TypeId) : RdAt w ((w.alloc (.cells zc zt)).alloc (.cells #[.string ⟨s.toArray⟩, .bool false] 100)) (w.heap.size + 1) ⟨s, false⟩ zc zt := by
  have hb : Below w.heap.size w ((w.alloc (.cells zc zt)).alloc (.cells #[.string ⟨s.toArray⟩, .bool false] 100)) := below_alloc (below_alloc (Below.refl _ _) (Nat.le_refl _) _) (Nat.le_refl _) _
  exact ⟨heap_at1 _ _ _, hG.later hb, hb, rfl, hG.nine, (Below.heap_alloc _ _ _ (by simp)).trans (heap_alloc_new _ _)⟩

/-- a block of the call's own, beyond those two -/
structure BoxAt (w wk : World) (g : Nat) (cs : Array Value) (t : TypeId) : Prop where
  at_ : wk.heap[g]? = some (.cells cs t (0, 0))
  far : w.heap.size + 1 < g
theorem BoxAt.lt {w wk : World} {g : Nat} {cs : Array Value} {t : TypeId} (h : BoxAt w wk g cs t) : g < wk.heap.size := (Array.getElem?_eq_some_iff.1 h.at_).1
theorem BoxAt.next {w wk w' : World} {g b : Nat} {cs : Array Value} {t : TypeId} (h : BoxAt w wk g cs t) (hb : b = w.heap.size + 1) (hg : wk.grownBy w' (some b)) : BoxAt w w' g cs t :=
  ⟨(hg.block _ h.lt (fun e => by injection e; have := h.far; omega)).trans h.at_, h.far⟩
theorem BoxAt.later {w wk w' : World} {g : Nat} {cs : Array Value} {t : TypeId} (h : BoxAt w wk g cs t) (hb : Below wk.heap.size wk w') : BoxAt w w' g cs t := ⟨(hb.block _ h.lt).trans h.at_, h.far⟩
theorem BoxAt.new {w wk : World} {b : Nat} {f : Fs} {zc : Array Value} {zt : TypeId} (h : RdAt w wk b f zc zt) (cs : Array Value) (t : TypeId) : BoxAt w (wk.alloc (.cells cs t)) wk.heap.size cs t :=
  ⟨heap_alloc_new _ _, by have := h.inf.lt; have := h.hb; omega⟩
theorem BoxAt.set {w wk : World} {g : Nat} {cs : Array Value} {t : TypeId} (h : BoxAt w wk g cs t) (new : Array Value) : BoxAt w (wk.setRow g new) g new t := ⟨setRow_heap _ _ _ _ _ _ h.at_, h.far⟩

/-- a part -/
structure PartV where
  num : Int
  size : Int
  when_ : Int
  etag : List UInt8
  blob : Int
def PartV.cells (p : PartV) : Array Value := #[.int .i64 p.num, .int .i64 p.size, .int .i64 p.when_, .string ⟨p.etag.toArray⟩, .int .i64 p.blob]
def partZero : Array Value := #[.int .i64 0, .int .i64 0, .int .i64 0, .string ⟨#[]⟩, .int .i64 0]

def rp1 (s : List UInt8) : Fs := ofF [80] ⟨s, false⟩
def rp2 (s : List UInt8) : Int × Fs := numberF 1 20 (rp1 s)
def rp3 (s : List UInt8) : Int × Fs := numberF 0 9007199254740991 (rp2 s).2
def rp4 (s : List UInt8) : Int × Fs := numberF 0 253402300799 (rp3 s).2
def rp5 (s : List UInt8) : List UInt8 × Fs := shortF 100 (rp4 s).2
def rp6 (s : List UInt8) : Int × Fs := numberF 1 9007199254740991 (rp5 s).2
/-- the part of which a text is the record -/
def readPartL (s : List UInt8) : Option PartV := if doneF (rp6 s).2 = 0 then some ⟨(rp2 s).1, (rp3 s).1, (rp4 s).1, (rp5 s).1, (rp6 s).1⟩ else none

theorem doneF_cases (f : Fs) : doneF f = 0 ∨ doneF f = 59 := by
  unfold doneF
  split
  · exact .inr rfl
  · exact .inl rfl

end Go.Proofs.YtajmkkjlhmeolaaGreatDoor
