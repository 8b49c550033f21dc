/-
  SEVERAL SMALL TEXTS IN ONE.
-/
import Derived.Test.YtdilmefeofdkmaaGreatDoorSm4
import Derived.Test.YtdilmefeofdkmaaGreatDoorSm0
import Derived.RegionTactic
import Derived.Lib.IndexBytes
import Derived.Lib.Strings
import Derived.Test.YtdilmefeofdkmaaGreatDoorWiLeaf
import Derived.Deep.LoopGhost
/-
  strings.Cut at one byte, at every text.
-/
namespace Go.Proofs.YtdilmefeofdkmaaGreatDoor
open Go.RowKit

theorem belowDrewN {B : Nat} {a w : World} (h : Below B a w) (n : Nat) : Below B a (w.drewN n) := ⟨h.os, h.tape, h.output, h.size, h.block⟩
theorem extract_take (s : ByteArray) (i : Nat) : s.extract 0 i = ⟨(s.data.toList.take i).toArray⟩ := by
  have h := Lib.extract_data s 0 i
  rw [List.drop_zero, Nat.sub_zero] at h
  rw [← h]
theorem extract_drop (s : ByteArray) (i : Nat) : s.extract i s.size = ⟨(s.data.toList.drop i).toArray⟩ := by
  have h := Lib.extract_to_end s i
  rw [← h]

set_option maxHeartbeats 1000000 in
theorem slcut_any (s : ByteArray) (c : UInt8) (w : World) (hs : s.size ≤ 9223372036854775806) :
    Calls Tryz.prog 110 #[.string s, .string ⟨#[c]⟩] w fun e w' => e = .returned (.tuple #[.string ⟨(cut1 s.data.toList c).1.toArray⟩, .string ⟨(cut1 s.data.toList c).2.1.toArray⟩, .bool (cut1 s.data.toList c).2.2]) ∧ ∃ n, w' = w.drewN n := by
  have hl : s.data.toList.length = s.size := by simp
  rcases indexByte_cases s.data.toList c with ⟨h1, h2⟩ | ⟨i, hi, hlt, _, _⟩
  · have HC : Hid (cut1 s.data.toList c = (s.data.toList, [], false)) := cut1_no h2
    have H1 := Lib.hid h1
    clear h1 h2 hl
    go_enter Tryz.func110, Tryz.ntmps110
    go_wp2_with fail
    refine (Tryz.stringslite_Index_one _ _ _).mono ?_
    rintro e w' ⟨rfl, rfl⟩
    rw [H1.out]
    go_wp2
    go_ret3
    rw [HC.out]
    exact ⟨rfl, 0, rfl⟩
  · have HC : Hid (cut1 s.data.toList c = (s.data.toList.take i, s.data.toList.drop (i + 1), true)) := by
      show _ = _
      unfold cut1
      rw [hi, if_pos (by omega)]; rfl
    have H1 := Lib.hid hi
    have c1 : (0 : Int) ≤ (i : Int) := by omega
    have c2 : (i : Int) ≤ (s.size : Int) := by omega
    have c3 : (0 : Int) ≤ (i : Int) + 1 := by omega
    have c4 : (i : Int) + 1 ≤ (s.size : Int) := by omega
    clear hi hl
    go_enter Tryz.func110, Tryz.ntmps110
    go_wp2_with fail
    refine (Tryz.stringslite_Index_one _ _ _).mono ?_
    rintro e w' ⟨rfl, rfl⟩
    rw [H1.out]
    go_wp2
    go_region
    go_wp2
    go_ret3
    rw [HC.out]
    exact ⟨by rw [← extract_take, ← extract_drop s (i + 1)]; rfl, 1, rfl⟩

set_option maxHeartbeats 1000000 in
theorem cut_any (s : ByteArray) (c : UInt8) (w : World) (hs : s.size ≤ 9223372036854775806) :
    Calls Tryz.prog 95 #[.string s, .string ⟨#[c]⟩] w fun e w' => e = .returned (.tuple #[.string ⟨(cut1 s.data.toList c).1.toArray⟩, .string ⟨(cut1 s.data.toList c).2.1.toArray⟩, .bool (cut1 s.data.toList c).2.2]) ∧ ∃ n, w' = w.drewN n := by
  go_enter Tryz.func95, Tryz.ntmps95
  go_wp2_with fail
  refine (slcut_any s c _ hs).mono ?_
  rintro e w' ⟨rfl, n, rfl⟩
  go_wp2
  go_ret3
  exact ⟨rfl, n, rfl⟩

theorem cutAt_no {c : UInt8} : ∀ {l : List UInt8}, c ∉ l → cutAt c l = (l, [], false)
  | [], _ => rfl
  | b :: l, h => by
    simp only [List.mem_cons, not_or] at h
    simp only [cutAt, if_neg (fun e : b = c => h.1 e.symm), cutAt_no h.2]
theorem cutAt_at {c : UInt8} : ∀ {a b : List UInt8}, c ∉ a → cutAt c (a ++ c :: b) = (a, b, true)
  | [], b, _ => by simp [cutAt]
  | x :: a, b, h => by
    simp only [List.mem_cons, not_or] at h
    simp only [List.cons_append, cutAt, if_neg (fun e : x = c => h.1 e.symm), cutAt_at h.2]
theorem mem_split {c : UInt8} : ∀ {l : List UInt8}, c ∈ l → ∃ a b, l = a ++ c :: b ∧ c ∉ a
  | x :: l, h => by
    by_cases e : x = c
    · exact ⟨[], l, by rw [e]; rfl, by simp⟩
    · obtain ⟨a, b, rfl, h2⟩ := mem_split (l := l) (by rcases List.mem_cons.1 h with h | h; exact absurd h.symm e; exact h)
      exact ⟨x :: a, b, rfl, by simp only [List.mem_cons, not_or]; exact ⟨fun y => e y.symm, h2⟩⟩
theorem cut1_cutAt (l : List UInt8) (c : UInt8) : cut1 l c = cutAt c l := by
  by_cases h : c ∈ l
  · obtain ⟨a, b, rfl, h2⟩ := mem_split h
    rw [cut1_at h2, cutAt_at h2]
  · rw [cut1_no h, cutAt_no h]
/-- strings.Cut -/
theorem cutL_any (l : List UInt8) (c : UInt8) (w : World) (hs : l.length ≤ 140737488351232) :
    Calls Tryz.prog 95 #[.string ⟨l.toArray⟩, .string ⟨#[c]⟩] w fun e w' => e = .returned (.tuple #[.string ⟨(cutAt c l).1.toArray⟩, .string ⟨(cutAt c l).2.1.toArray⟩, .bool (cutAt c l).2.2]) ∧ Below w.heap.size w w' := by
  refine (cut_any ⟨l.toArray⟩ c w (by simp [ByteArray.size]; omega)).mono ?_
  rintro e w' ⟨rfl, n, rfl⟩
  rw [← cut1_cutAt]
  exact ⟨rfl, belowDrewN (Below.refl _ _) _⟩
theorem cutAt_len (c : UInt8) : ∀ l : List UInt8, (cutAt c l).1.length ≤ l.length ∧ (cutAt c l).2.1.length ≤ l.length
  | [] => by simp [cutAt]
  | b :: l => by
    have := cutAt_len c l
    simp only [cutAt]
    split <;> simp <;> omega

end Go.Proofs.YtdilmefeofdkmaaGreatDoor

/-
  WIRE: all, isName: texts of bytes of a kind.
-/
namespace Go.Proofs.YtdilmefeofdkmaaGreatDoor
open Go.RowKit

set_option maxHeartbeats 1000000 in
theorem all1_any {k : Nat} {p : UInt8 → Bool} (ht : IsTest k p) (b : UInt8) (B : Nat) (W : World) (hc : W.cell? ⟨B, 0, none⟩ = some (.func (.func k) #[] #[])) :
    Calls Tryz.prog 88 #[.int .u8 (b.toNat : Int), .pointer (some ⟨B, 0, none⟩)] W fun e w' => e = .returned (.bool (!p b)) ∧ w' = W := by
  obtain ⟨eg, hp⟩ := ht
  have HP := Lib.hid (fun W => hp b W)
  clear hp
  obtain ⟨x, hx⟩ : ∃ x, p b = x := ⟨_, rfl⟩
  rw [hx] at HP ⊢
  clear hx
  go_enter Tryz.func88, Tryz.ntmps88
  go_wp2_with (go_at_fn k; refine (HP.out _).mono ?_; rintro e w' ⟨rfl, rfl⟩)
  go_ret
  exact ⟨rfl, rfl⟩

set_option maxHeartbeats 2000000 in
set_option maxRecDepth 100000 in
theorem all_any (s : List UInt8) (hs : s.length ≤ 140737488351232) {k : Nat} {p : UInt8 → Bool} (ht : IsTest k p) (w : World) :
    Calls Tryz.prog 62 #[.string ⟨s.toArray⟩, .func (.func k) #[] #[]] w fun e w' => e = .returned (.bool (allB s p)) ∧ Below w.heap.size w w' := by
  by_cases hne : s = []
  · subst hne
    have hbw := Lib.hid (below_alloc (Below.refl w.heap.size w) (Nat.le_refl _) (.cells #[.func (.func k) #[] #[]] 75))
    clear ht hs
    go_enter Tryz.func62, Tryz.ntmps62
    go_wp2
    go_ret
    exact ⟨rfl, hbw.out⟩
  · have hsz : (⟨s.toArray⟩ : ByteArray).size = s.length := by simp [ByteArray.size]
    obtain ⟨w1, hw1⟩ : ∃ w1, w.alloc (.cells #[.func (.func k) #[] #[]] 75) = w1 := ⟨_, rfl⟩
    have hb1 : Below w.heap.size w w1 := by rw [← hw1]; exact below_alloc (Below.refl _ _) (Nat.le_refl _) _
    have hc1 : w1.cell? ⟨w.heap.size, 0, none⟩ = some (.func (.func k) #[] #[]) := by rw [← hw1]; exact cell_new _ _ _ _ _ _ rfl rfl
    have hcv := Lib.run_convert_string_bytes (P := Tryz.prog) w1 9 41 5 ⟨s.toArray⟩ (u := .string) Tryz.underlying9 Tryz.underlying41 Tryz.underlying5
    have hB : ∀ j, j < s.length → (Lib.bytesWorld w1 5 ⟨s.toArray⟩).cell? ⟨w1.heap.size, 0 + j, none⟩ = some (encB s[j]!) := fun j hj => by
      rw [Nat.zero_add, Lib.bytesWorld_cell w1 5 ⟨s.toArray⟩ j (by rw [hsz]; exact hj)]
      simp [encB, hj]
    have hb2 := below_bytesWorld w1 5 ⟨s.toArray⟩
    obtain ⟨w2, hw2⟩ : ∃ w2, Lib.bytesWorld w1 5 ⟨s.toArray⟩ = w2 := ⟨_, rfl⟩
    rw [hw2] at hcv hB hb2
    have hc2 : w2.cell? ⟨w.heap.size, 0, none⟩ = some (.func (.func k) #[] #[]) := cell_later hb2 hc1
    have hlt : w.heap.size < w2.heap.size := World.block_lt_of_cell? _ _ hc2
    have HC : Hid (∀ cp, Calls Tryz.prog 41 #[.slice (some ⟨w1.heap.size, 0, none⟩) s.length cp, .func (.func 88) #[] #[.pointer (some ⟨w.heap.size, 0, none⟩)]] w2 fun e w' => e = .returned (.bool (s.any fun b => !p b)) ∧ ∃ q, w' = w2.drewN q) := fun cp => by
      have := Tryz.slices_ContainsFunc_f41 encB (fun b => !p b) 88 #[.pointer (some ⟨w.heap.size, 0, none⟩)] (enters_of Tryz.func88 (by kernel_rfl) rfl) w1.heap.size 0 s.length cp s w2
        (fun W x hW => by
          refine (all1_any ht x w.heap.size W (by rw [hW.cell (by simpa using hlt)]; exact hc2)).mono ?_
          rintro e w' ⟨rfl, rfl⟩
          exact ⟨rfl, 0, rfl⟩) (Nat.le_refl _) (by omega) hB
      rwa [List.take_length] at this
    have HW : Hid (Below w.heap.size w w2) := hb1.trans (hb2.mono hb1.size)
    have HV : Hid (allB s p = !(s.any fun b => !p b)) := by
      show _ = _
      unfold allB
      cases s with
      | nil => exact absurd rfl hne
      | cons b l => simp [List.all_eq_not_any_not]
    obtain ⟨x, hx⟩ : ∃ x, (s.any fun b => !p b) = x := ⟨_, rfl⟩
    rw [hx] at HC HV
    rw [HV.out]
    clear hB hb1 hb2 hc1 hc2 hw2 ht hx
    go_enter Tryz.func62, Tryz.ntmps62
    go_wp2_with (refine (HC.out _).mono ?_; rintro e w' ⟨rfl, q, rfl⟩)
    go_ret
    exact ⟨by cases x <;> first | rfl | (simp [hne]; done), belowDrewN HW.out _⟩

theorem isName_any (s : List UInt8) (hs : s.length ≤ 140737488351232) (w : World) :
    Calls Tryz.prog 39 #[.string ⟨s.toArray⟩] w fun e w' => e = .returned (.bool (allB s nameB)) ∧ Below w.heap.size w w' := by
  have HC := Lib.hid (fun W => all_any s hs nameChar_test W)
  clear hs
  go_enter Tryz.func39, Tryz.ntmps39
  go_wp2_with fail
  refine (HC.out _).mono ?_
  rintro e w' ⟨rfl, hb⟩
  have HB := Lib.hid hb
  clear hb
  go_wp2
  go_ret
  exact ⟨rfl, HB.out⟩

end Go.Proofs.YtdilmefeofdkmaaGreatDoor

/-
  WIRE: small: a text in small letters.
-/
namespace Go.Proofs.YtdilmefeofdkmaaGreatDoor
open Go.RowKit

theorem smallB_int (b : UInt8) : ((smallB b).toNat : Int) = if 65 ≤ (b.toNat : Int) ∧ (b.toNat : Int) ≤ 90 then (b.toNat : Int) + 32 else (b.toNat : Int) := by
  have h : ∀ n : Fin 256, ((smallB (UInt8.ofNat (n : Nat))).toNat : Int) = if 65 ≤ ((n : Nat) : Int) ∧ ((n : Nat) : Int) ≤ 90 then ((n : Nat) : Int) + 32 else ((n : Nat) : Int) := by decide +kernel
  have := h ⟨b.toNat, b.toNat_lt⟩
  simpa using this

/-- the bytes, the first i of them in small letters -/
def SmAt (w : World) (g : Nat) (s : List UInt8) (i : Nat) : Prop := ∀ j (h : j < s.length), w.cell? ⟨g, j, none⟩ = some (.int .u8 ((if j < i then smallB s[j] else s[j]).toNat : Int)) ∧ w.frozen? ⟨g, j, none⟩ = false
theorem SmAt.set {w : World} {g : Nat} {s : List UInt8} {i : Nat} (h : SmAt w g s i) (hi : i < s.length) : SmAt (w.setCell ⟨g, i, none⟩ (.int .u8 ((smallB s[i]).toNat : Int))) g s (i + 1) := by
  intro j hj
  obtain ⟨h1, h2⟩ := h j hj
  refine ⟨?_, by rw [World.frozen?_setCell]; exact h2⟩
  by_cases e : j = i
  · subst e
    rw [World.cell?_setCell_same' _ _ _ (by rw [h1]; rfl), if_pos (by omega)]
  · rw [World.cell?_setCell_other (h := by intro x; injection x with _ x2; exact e x2.symm), h1]
    by_cases e2 : j < i
    · rw [if_pos e2, if_pos (by omega)]
    · rw [if_neg e2, if_neg (by omega)]
theorem SmAt.skip {w : World} {g : Nat} {s : List UInt8} {i : Nat} (h : SmAt w g s i) (hi : i < s.length) (hs : smallB s[i] = s[i]) : SmAt w g s (i + 1) := by
  intro j hj
  obtain ⟨h1, h2⟩ := h j hj
  refine ⟨?_, h2⟩
  rw [h1]
  by_cases e : j = i
  · subst e; rw [if_neg (by omega), if_pos (by omega), hs]
  · by_cases e2 : j < i
    · rw [if_pos e2, if_pos (by omega)]
    · rw [if_neg e2, if_neg (by omega)]

set_option maxHeartbeats 2000000 in
set_option maxRecDepth 100000 in
theorem small_any (s : List UInt8) (hs : s.length ≤ 140737488351232) (w : World) :
    Calls Tryz.prog 49 #[.string ⟨s.toArray⟩] w fun e w' => e = .returned (.string ⟨(smallL s).toArray⟩) ∧ Below w.heap.size w w' := by
  have hsz : (⟨s.toArray⟩ : ByteArray).size = s.length := by simp [ByteArray.size]
  have hcv := Lib.run_convert_string_bytes (P := Tryz.prog) w 9 41 5 ⟨s.toArray⟩ (u := .string) Tryz.underlying9 Tryz.underlying41 Tryz.underlying5
  have hB : SmAt (Lib.bytesWorld w 5 ⟨s.toArray⟩) w.heap.size s 0 := fun j hj => by
    refine ⟨?_, ?_⟩
    · rw [Lib.bytesWorld_cell w 5 ⟨s.toArray⟩ j (by rw [hsz]; exact hj)]
      simp [hj]
    · have := Lib.bytesWorld_at_new w 5 ⟨s.toArray⟩
      have hn : s.length ≤ (Lib.bytesCells w 5 ⟨s.toArray⟩).size := by simp [Lib.bytesCells]
      simp only [World.frozen?, this]
      simp; omega
  have hb2 := below_bytesWorld w 5 ⟨s.toArray⟩
  obtain ⟨w2, hw2⟩ : ∃ w2, Lib.bytesWorld w 5 ⟨s.toArray⟩ = w2 := ⟨_, rfl⟩
  rw [hw2] at hcv hB hb2
  have HB := Lib.hid hB
  have HW := Lib.hid hb2
  have hlen : (smallL s).length = s.length := by simp [smallL]
  have HBK : Hid (∀ W cp, SmAt W w.heap.size s s.length → (convert 41 9 (.slice (some ⟨w.heap.size, 0, none⟩) s.length cp)).run Tryz.prog W = .ok (.string ⟨(smallL s).toArray⟩) W) := fun W cp hS => by
    have := run_convert_bytes_back (P := Tryz.prog) W 41 9 5 ⟨w.heap.size, 0, none⟩ cp (smallL s) Tryz.underlying41 Tryz.underlying5 Tryz.underlying9 (fun j hj => by
      rw [hlen] at hj
      rw [Addr.add_lit, Nat.zero_add, (hS j hj).1, if_pos hj]
      simp [smallL])
    rwa [hlen] at this
  clear hB hb2 hw2 hsz
  go_enter Tryz.func49, Tryz.ntmps49
  go_wp2
  go_loopg [4, 5, 10] s.length (fun gg _ _ s10 wr => ∃ i : Nat, i ≤ s.length ∧ s.length - i ≤ gg ∧ s10 = .int .i64 i ∧ Hid (SmAt wr w.heap.size s i) ∧ Hid (Below w.heap.size w wr))
  case atStart => exact ⟨0, Nat.zero_le _, by omega, rfl, HB, HW⟩
  case round =>
    obtain ⟨i, hi, hg, rfl, SM, BW⟩ := hrel
    by_cases hlt : i < s.length
    · have hltz : (i : Int) < (s.length : Int) := by omega
      obtain ⟨c0, f0⟩ := SM.out i hlt
      rw [if_neg (by omega)] at c0
      have hb := (s[i]).toNat_lt
      have hv := smallB_int s[i]
      have hset := SM.out.set hlt
      have hskip := fun h => SM.out.skip hlt h
      obtain ⟨b, hbe⟩ : ∃ b, s[i] = b := ⟨_, rfl⟩
      rw [hbe] at c0 hb hv hset hskip
      by_cases h1 : 65 ≤ (b.toNat : Int) ∧ (b.toNat : Int) ≤ 90
      · rw [if_pos h1] at hv
        obtain ⟨h1, h2⟩ := h1
        rw [hv] at hset
        have HS := Lib.hid hset
        clear hset hskip hbe hv
        go_wp2
        go_roundg (s.length - (i + 1))
        case measure => omega
        case rel => exact ⟨i + 1, by omega, by omega, by go_num, HS, Lib.hid (BW.out.setCell (Nat.le_refl _) _)⟩
      · have hsm : smallB b = b := by
          rw [if_neg h1] at hv
          exact UInt8.toNat_inj.1 (by omega)
        have HS := Lib.hid (hskip hsm)
        clear hset hskip hbe hv hsm
        by_cases h2 : 65 ≤ (b.toNat : Int)
        · have h3 : 90 < (b.toNat : Int) := by omega
          clear h1
          go_wp2
          go_roundg (s.length - (i + 1))
          case measure => omega
          case rel => exact ⟨i + 1, by omega, by omega, by go_num, HS, BW⟩
        · have h3 : (b.toNat : Int) < 65 := by omega
          clear h1
          go_wp2
          go_roundg (s.length - (i + 1))
          case measure => omega
          case rel => exact ⟨i + 1, by omega, by omega, by go_num, HS, BW⟩
    · have he : i = s.length := by omega
      subst he
      have hcb := fun cp => HBK.out wr cp SM.out
      clear hcv
      go_wp2
      go_ret
      exact ⟨rfl, BW.out⟩

end Go.Proofs.YtdilmefeofdkmaaGreatDoor

/-
  WIRE: the values of the fields of a name.
-/
namespace Go.Proofs.YtdilmefeofdkmaaGreatDoor
open Go.RowKit

def strCs (l : List (List UInt8)) : List Value := l.map fun t => .string ⟨t.toArray⟩
theorem info_string : ∃ i, Tryz.prog.info? 9 = some i ∧ i.zero = some (.string ⟨#[]⟩) ∧ i.size = 1 ∧ i.bytes = 16 :=
  info_parts (show (Tryz.prog.info? 9).map (fun i => (i.zero, i.size, i.bytes)) = some (some (.string ⟨#[]⟩), 1, 16) by kernel_rfl)
theorem pair_get : ∀ {fs : List (List UInt8 × List UInt8)} {i : Nat} {f : List UInt8 × List UInt8}, fs[i]? = some f → (pairCells fs)[i * 2]? = some (.string ⟨f.1.toArray⟩) ∧ (pairCells fs)[i * 2 + 1]? = some (.string ⟨f.2.toArray⟩)
  | [], _, _, h => by simp at h
  | g :: fs, 0, f, h => by
    simp only [List.getElem?_cons_zero, Option.some.injEq] at h
    subst h
    exact ⟨rfl, rfl⟩
  | g :: fs, i + 1, f, h => by
    have := pair_get (fs := fs) (i := i) (f := f) (by simpa using h)
    rw [show (i + 1) * 2 = i * 2 + 2 from by omega]
    exact this
theorem valuesL_take (name : List UInt8) (fs : List (List UInt8 × List UInt8)) {i : Nat} {f : List UInt8 × List UInt8} (h : fs[i]? = some f) : valuesL name (fs.take (i + 1)) = valuesL name (fs.take i) ++ (if f.1 = name then [f.2] else []) := by
  have hlt := (List.getElem?_eq_some_iff.1 h)
  have : fs.take (i + 1) = fs.take i ++ [f] := by rw [List.take_add_one]; rw [h]; rfl
  rw [this]
  unfold valuesL
  rw [List.filter_append, List.map_append]
  congr 1
  by_cases e : f.1 = name
  · simp [e]
  · simp [e]

theorem valuesL_len (name : List UInt8) (fs : List (List UInt8 × List UInt8)) : (valuesL name fs).length ≤ fs.length := by
  unfold valuesL
  rw [List.length_map]
  exact List.length_filter_le _ _

theorem bytes_beq (a b : ByteArray) : (a == b) = decide (a = b) := by
  cases a with | mk x => cases b with | mk y => show (x == y) = _; rw [Bool.eq_iff_iff, beq_iff_eq, decide_eq_true_iff]; simp
theorem str_beq (x y : List UInt8) : ((⟨x.toArray⟩ : ByteArray) == ⟨y.toArray⟩) = decide (x = y) := by
  rw [bytes_beq]; congr 1; simp

/-- a slice of texts of its own, from base on -/
def StrsAt (w : World) (base : Nat) (l : List (List UInt8)) (v : Value) : Prop := w.ownsRow base 9 1 v l.length (strCs l)

set_option maxHeartbeats 2000000 in
set_option maxRecDepth 100000 in
theorem values_any (rd : Nat) (vf : Value) (fs : List (List UInt8 × List UInt8)) (name : List UInt8) (w : World) (h11 : w.cell? ⟨rd, 11, none⟩ = some vf) (hf : w.ownsRow 0 58 2 vf fs.length (pairCells fs)) (hl : fs.length ≤ 1000000) :
    Calls Tryz.prog 112 #[.pointer (some ⟨rd, 0, none⟩), .string ⟨name.toArray⟩] w fun e w' => ∃ v, e = .returned v ∧ StrsAt w' w.heap.size (valuesL name fs) v ∧ Below w.heap.size w w' := by
  obtain ⟨i0, hi, hz0, hz1, hz2⟩ := info_string
  have hcell : Hid (∀ i f, fs[i]? = some f → ∃ g c, vf = .slice (some ⟨g, 0, none⟩) fs.length c ∧ g < w.heap.size ∧ w.cell? ⟨g, i * 2, none⟩ = some (.string ⟨f.1.toArray⟩) ∧ w.cell? ⟨g, i * 2 + 1, none⟩ = some (.string ⟨f.2.toArray⟩)) := fun i f hif => by
    have hlt := (List.getElem?_eq_some_iff.1 hif).1
    obtain ⟨g, c, hv, _, hg⟩ := hf.form (by omega)
    have k1 := hf.cells (g := g) (by rw [hv]; rfl) _ _ (pair_get hif).1
    have k2 := hf.cells (g := g) (by rw [hv]; rfl) _ _ (pair_get hif).2
    rw [Addr.add_lit, Nat.zero_add] at k1 k2
    exact ⟨g, c, hv, hg, k1, k2⟩
  obtain ⟨a, c, hv⟩ := row_form hf
  have HL := Lib.hid hl
  rw [hv] at h11
  have HV := Lib.hid hv
  clear hf hl hv
  go_enter Tryz.func112, Tryz.ntmps112
  go_wp2
  go_loopg [5, 14] fs.length (fun gg s5 s14 wr => ∃ (i : Nat) (v : Value), i ≤ fs.length ∧ fs.length - i ≤ gg ∧ s14 = .int .i64 i ∧ s5 = v ∧ Hid (StrsAt wr w.heap.size (valuesL name (fs.take i)) v) ∧ Hid (Below w.heap.size w wr))
  case atStart => exact ⟨0, _, Nat.zero_le _, by omega, rfl, rfl, World.ownsRow_nil _ _ _ _, Below.refl _ _⟩
  case round =>
    obtain ⟨i, v5, hin, hg, rfl, h5, SA, BW⟩ := hrel
    obtain ⟨x, n, cc, rfl⟩ : ∃ x n cc, v5 = .slice x n cc := by
      rcases SA.out.2 with ⟨h1, _⟩ | ⟨g, cap, cur, h1, _⟩
      · exact ⟨_, _, _, h1⟩
      · exact ⟨_, _, _, h1⟩
    subst h5
    by_cases hlt : i < fs.length
    · have hltz : (i : Int) < (fs.length : Int) := by omega
      obtain ⟨f, hif⟩ : ∃ f, fs[i]? = some f := ⟨_, List.getElem?_eq_getElem hlt⟩
      obtain ⟨g, c', hv, hgl, k0, k1⟩ := hcell.out i f hif
      have hvt := valuesL_take name fs hif
      have hvl : (valuesL name (fs.take i)).length ≤ 1000000 := Nat.le_trans (valuesL_len _ _) (by rw [List.length_take]; have := HL.out; omega)
      have hv2 := HV.out.symm.trans hv
      injection hv2 with e1 e2 e3
      subst e1 e3
      have e0 := cell_later BW.out k0
      have e1 := cell_later BW.out k1
      obtain ⟨n1, v1⟩ := f
      simp only at e0 e1 hvt
      have hL := HL.out
      have hsz := BW.out.size
      clear hif hv k0 k1
      by_cases hn : n1 = name
      · rw [if_pos hn] at hvt
        subst hn
        have HVT := Lib.hid hvt
        clear hvt
        go_wp2_with (refine wpList_append_lies _ rfl _ _ 22 rfl w.heap.size 9 i0 _ 1 16 Tryz.underlying22 hi hz0 hz1 hz2 rfl (by decide) _ _ _ rfl ((SA.out.alloc _).alloc _) ⟨wr.heap.size + 1, 0, none⟩ 1 1 [.string ⟨v1.toArray⟩] rfl rfl (fun j u hj => by rw [Addr.add_lit, cell_of_heap (heap_at1 _ _ _)]; simpa using hj) (by simp [Value.oneCell']) (by decide) (by simp only [maxLen]; omega) (by omega) (by simp; omega) _ rfl ?_)
        intro gn cap w2 hown hgr hat hlt2
        have HO : Hid (StrsAt w2 w.heap.size (valuesL n1 (fs.take (i + 1))) (.slice (some ⟨gn, 0, none⟩) ((valuesL n1 (fs.take i)).length + 1) cap)) := by
          show StrsAt _ _ _ _
          unfold StrsAt
          rw [HVT.out]
          simpa [strCs] using hown
        have HB : Hid (Below w.heap.size w w2) := by
          refine (below_alloc (below_alloc BW.out (Nat.le_refl _) _) (Nat.le_refl _) _).trans ((Chg.grown hgr).below (by simp; omega) fun k hk => ?_)
          exact (SA.out.lt k hk.symm).1
        clear hown hgr hat
        go_wp2
        go_roundg (fs.length - (i + 1))
        case measure => omega
        case rel => exact ⟨i + 1, _, by omega, by omega, by go_num, rfl, HO, HB⟩
      · rw [if_neg hn, List.append_nil] at hvt
        have hb : (n1 == name) = false := by simpa using hn
        have HO : Hid (StrsAt wr w.heap.size (valuesL name (fs.take (i + 1))) (.slice x n cc)) := by show StrsAt _ _ _ _; rw [hvt]; exact SA.out
        clear hvt
        go_wp2
        go_roundg (fs.length - (i + 1))
        case measure => omega
        case rel => exact ⟨i + 1, _, by omega, by omega, by go_num, rfl, HO.out.alloc _, below_alloc BW.out (Nat.le_refl _) _⟩
    · have he : i = fs.length := by omega
      subst he
      have SA' := SA.out
      rw [List.take_length] at SA'
      have SB := Lib.hid SA'
      clear SA' SA
      go_wp2
      go_ret
      exact ⟨_, rfl, SB.out, BW.out⟩

end Go.Proofs.YtdilmefeofdkmaaGreatDoor

/-
  A call of a Go function at an operation: by its contract, without a walk.
-/
namespace Go.Proofs.YtdilmefeofdkmaaGreatDoor
open Go.RowKit

theorem wp_call_go {P : Program} {o : Oper} {a : Act} {w : World} {K : Act → World → Prop} {Q : Exit → Act → World → Prop} {f : Nat} {fn : Func} (hf : P.funcs[f]? = some fn) (hn : (fn.name == "runtime.NumGoroutine") = false) (hb : fn.body.isNone = false)
    {xs : List Operand} {tys : Array TypeId}
    (ho : o.op = .call { callee := .value (.func f), args := xs.toArray, argTypes := tys }) {vs : List Value} {R : Ending → World → Prop} (hc : Calls P f vs.toArray w R) (hv : xs.map a.eval = vs)
    (h : ∀ e w', R e w' → ∃ v, e = .returned v ∧ K (a.put o.dst v) w') : o.wp P a w K Q := by
  have hx : (execOp a.eval o).run P w = .ok (.enter f vs.toArray) w := by
    unfold execOp
    simp [ho, resolve, invoke, hv, Act.eval, Deferred.ofValue, callFunc]
    simp [hf]
    have hn' : ¬ fn.name = "runtime.NumGoroutine" := by simpa using hn
    cases hbd : fn.body with
    | none => rw [hbd] at hb; cases hb
    | some b => simp [hn']
  unfold Oper.wp
  rw [hx, Oper.upon_enter]
  refine hc.mono ?_
  intro e w' hR
  obtain ⟨v, rfl, hk⟩ := h e w' hR
  exact hk

end Go.Proofs.YtdilmefeofdkmaaGreatDoor
