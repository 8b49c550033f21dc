/-
  WIRE: small: a text in small letters.
-/
import Derived.Test.YtdilmefeofdkmaaGreatDoorSm9
import Derived.Deep.LoopGhost
namespace Go.Proofs.YtdilmefeofdkmaaGreatDoor
open Go.RowKit

theorem smallB_int (b : UInt8) : ((smallB b).toNat : Int) = if 65 ≤ (b.toNat : Int) ∧ (b.toNat : Int) ≤ 90 then (b.toNat : Int) + 32 else (b.toNat : Int) := by
  have h : ∀ n : Fin 256, ((smallB (UInt8.ofNat (n : Nat))).toNat : Int) = if 65 ≤ ((n : Nat) : Int) ∧ ((n : Nat) : Int) ≤ 90 then ((n : Nat) : Int) + 32 else ((n : Nat) : Int) := by decide +kernel
  have := h ⟨b.toNat, b.toNat_lt⟩
  simpa using this

/-- the bytes, the first i of them in small letters -/
def SmAt (w : World) (g : Nat) (s : List UInt8) (i : Nat) : Prop := ∀ j (h : j < s.length), w.cell? ⟨g, j, none⟩ = some (.int .u8 ((if j < i then smallB s[j] else s[j]).toNat : Int)) ∧ w.frozen? ⟨g, j, none⟩ = false
theorem SmAt.set {w : World} {g : Nat} {s : List UInt8} {i : Nat} (h : SmAt w g s i) (hi : i < s.length) : SmAt (w.setCell ⟨g, i, none⟩ (.int .u8 ((smallB s[i]).toNat : Int))) g s (i + 1) := by
  intro j hj
  obtain ⟨h1, h2⟩ := h j hj
  refine ⟨?_, by rw [World.frozen?_setCell]; exact h2⟩
  by_cases e : j = i
  · subst e
    rw [World.cell?_setCell_same' _ _ _ (by rw [h1]; rfl), if_pos (by omega)]
  · rw [World.cell?_setCell_other (h := by intro x; injection x with _ x2; exact e x2.symm), h1]
    by_cases e2 : j < i
    · rw [if_pos e2, if_pos (by omega)]
    · rw [if_neg e2, if_neg (by omega)]
theorem SmAt.skip {w : World} {g : Nat} {s : List UInt8} {i : Nat} (h : SmAt w g s i) (hi : i < s.length) (hs : smallB s[i] = s[i]) : SmAt w g s (i + 1) := by
  intro j hj
  obtain ⟨h1, h2⟩ := h j hj
  refine ⟨?_, h2⟩
  rw [h1]
  by_cases e : j = i
  · subst e; rw [if_neg (by omega), if_pos (by omega), hs]
  · by_cases e2 : j < i
    · rw [if_pos e2, if_pos (by omega)]
    · rw [if_neg e2, if_neg (by omega)]

set_option maxHeartbeats 2000000 in
set_option maxRecDepth 100000 in
theorem small_any (s : List UInt8) (hs : s.length ≤ 140737488351232) (w : World) :
    Calls Tryz.prog 49 #[.string ⟨s.toArray⟩] w fun e w' => e = .returned (.string ⟨(smallL s).toArray⟩) ∧ Below w.heap.size w w' := by
  have hsz : (⟨s.toArray⟩ : ByteArray).size = s.length := by simp [ByteArray.size]
  have hcv := Lib.run_convert_string_bytes (P := Tryz.prog) w 9 41 5 ⟨s.toArray⟩ (u := .string) Tryz.underlying9 Tryz.underlying41 Tryz.underlying5
  have hB : SmAt (Lib.bytesWorld w 5 ⟨s.toArray⟩) w.heap.size s 0 := fun j hj => by
    refine ⟨?_, ?_⟩
    · rw [Lib.bytesWorld_cell w 5 ⟨s.toArray⟩ j (by rw [hsz]; exact hj)]
      simp [hj]
    · have := Lib.bytesWorld_at_new w 5 ⟨s.toArray⟩
      have hn : s.length ≤ (Lib.bytesCells w 5 ⟨s.toArray⟩).size := by simp [Lib.bytesCells]
      simp only [World.frozen?, this]
      simp; omega
  have hb2 := below_bytesWorld w 5 ⟨s.toArray⟩
  obtain ⟨w2, hw2⟩ : ∃ w2, Lib.bytesWorld w 5 ⟨s.toArray⟩ = w2 := ⟨_, rfl⟩
  rw [hw2] at hcv hB hb2
  have HB := Lib.hid hB
  have HW := Lib.hid hb2
  have hlen : (smallL s).length = s.length := by simp [smallL]
  have HBK : Hid (∀ W cp, SmAt W w.heap.size s s.length → (convert 41 9 (.slice (some ⟨w.heap.size, 0, none⟩) s.length cp)).run Tryz.prog W = .ok (.string ⟨(smallL s).toArray⟩) W) := fun W cp hS => by
    have := run_convert_bytes_back (P := Tryz.prog) W 41 9 5 ⟨w.heap.size, 0, none⟩ cp (smallL s) Tryz.underlying41 Tryz.underlying5 Tryz.underlying9 (fun j hj => by
      rw [hlen] at hj
      rw [Addr.add_lit, Nat.zero_add, (hS j hj).1, if_pos hj]
      simp [smallL])
    rwa [hlen] at this
  clear hB hb2 hw2 hsz
  go_enter Tryz.func49, Tryz.ntmps49
  go_wp2
  go_loopg [4, 5, 10] s.length (fun gg _ _ s10 wr => ∃ i : Nat, i ≤ s.length ∧ s.length - i ≤ gg ∧ s10 = .int .i64 i ∧ Hid (SmAt wr w.heap.size s i) ∧ Hid (Below w.heap.size w wr))
  case atStart => exact ⟨0, Nat.zero_le _, by omega, rfl, HB, HW⟩
  case round =>
    obtain ⟨i, hi, hg, rfl, SM, BW⟩ := hrel
    by_cases hlt : i < s.length
    · have hltz : (i : Int) < (s.length : Int) := by omega
      obtain ⟨c0, f0⟩ := SM.out i hlt
      rw [if_neg (by omega)] at c0
      have hb := (s[i]).toNat_lt
      have hv := smallB_int s[i]
      have hset := SM.out.set hlt
      have hskip := fun h => SM.out.skip hlt h
      obtain ⟨b, hbe⟩ : ∃ b, s[i] = b := ⟨_, rfl⟩
      rw [hbe] at c0 hb hv hset hskip
      by_cases h1 : 65 ≤ (b.toNat : Int) ∧ (b.toNat : Int) ≤ 90
      · rw [if_pos h1] at hv
        obtain ⟨h1, h2⟩ := h1
        rw [hv] at hset
        have HS := Lib.hid hset
        clear hset hskip hbe hv
        go_wp2
        go_roundg (s.length - (i + 1))
        case measure => omega
        case rel => exact ⟨i + 1, by omega, by omega, by go_num, HS, Lib.hid (BW.out.setCell (Nat.le_refl _) _)⟩
      · have hsm : smallB b = b := by
          rw [if_neg h1] at hv
          exact UInt8.toNat_inj.1 (by omega)
        have HS := Lib.hid (hskip hsm)
        clear hset hskip hbe hv hsm
        by_cases h2 : 65 ≤ (b.toNat : Int)
        · have h3 : 90 < (b.toNat : Int) := by omega
          clear h1
          go_wp2
          go_roundg (s.length - (i + 1))
          case measure => omega
          case rel => exact ⟨i + 1, by omega, by omega, by go_num, HS, BW⟩
        · have h3 : (b.toNat : Int) < 65 := by omega
          clear h1
          go_wp2
          go_roundg (s.length - (i + 1))
          case measure => omega
          case rel => exact ⟨i + 1, by omega, by omega, by go_num, HS, BW⟩
    · have he : i = s.length := by omega
      subst he
      have hcb := fun cp => HBK.out wr cp SM.out
      clear hcv
      go_wp2
      go_ret
      exact ⟨rfl, BW.out⟩

end Go.Proofs.YtdilmefeofdkmaaGreatDoor
