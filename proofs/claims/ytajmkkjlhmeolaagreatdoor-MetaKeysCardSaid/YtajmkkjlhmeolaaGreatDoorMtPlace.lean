/-
  Place.key: the walk.
-/
import Derived.Test.YtajmkkjlhmeolaaGreatDoorMtKeys
namespace Go.Proofs.YtajmkkjlhmeolaaGreatDoor
open Go.RowKit Go.Lib

def PlaceV.OK (p : PlaceV) : Prop := IntOK p.seq ∧ IntOK p.num ∧ p.bucket.length ≤ 140737488355328 ∧ p.key.length ≤ 140737488355328

set_option maxHeartbeats 4000000 in
set_option maxRecDepth 100000 in
theorem placeKey_any (p : PlaceV) (hok : p.OK) (w : World) (hG : GlobK w) : Calls Tryz.prog 52 #[.agg p.cells] w (StrOut (placeKeyL p) w) := by
  obtain ⟨kd, b, k, q, m⟩ := p
  obtain ⟨o1, o2, o3, o4⟩ := hok
  simp only at o1 o2 o3 o4
  simp only [PlaceV.cells]
  have HG : Hid (∀ W, Below w.heap.size w W → GlobK W) := fun W hW => hG.later hW
  obtain ⟨R, hR⟩ : ∃ R, Hid (placeKeyL ⟨kd, b, k, q, m⟩ = R) := ⟨_, rfl⟩
  have HR : Hid (R = if kd = 98 then bucketKeyL b else if kd = 118 then versionKeyL b k q else if kd = 117 then keyL [117, 47] q else if kd = 112 then partKeyL q m else if kd = 100 then keyL [100, 47] q else [110]) := hR.out.symm
  rw [hR.out]
  have BA : Hid (Below w.heap.size w (w.alloc (.cells #[.int .u8 kd, .string ⟨b.toArray⟩, .string ⟨k.toArray⟩, .int .i64 q, .int .i64 m] 25))) := below_alloc (Below.refl _ _) (Nat.le_refl _) _
  have c1 := Lib.hid (fun W (hW : Below w.heap.size w W) => bucketKey_any b o3 W (HG.out W hW))
  have c2 := Lib.hid (fun W (hW : Below w.heap.size w W) => versionKey_any b k q o3 o4 o1 W (HG.out W hW))
  have c3 := Lib.hid (fun W (hW : Below w.heap.size w W) => uploadKey_any q o1 W (HG.out W hW).g)
  have c4 := Lib.hid (fun W (hW : Below w.heap.size w W) => partKey_any q m o1 o2 W (HG.out W hW).g)
  have c5 := Lib.hid (fun W (hW : Below w.heap.size w W) => blobKey_any q o1 W (HG.out W hW).g)
  clear hG o1 o2 o3 o4
  by_cases h98 : kd = 98
  · subst h98
    rw [if_pos rfl] at HR
    rw [← HR.out] at c1
    go_enter Tryz.func52, Tryz.ntmps52
    go_wp2_with fail
    refine (c1.out _ BA.out).mono ?_
    rintro e w1 ⟨rfl, hb1⟩
    have B1 : Hid (Below w.heap.size w w1) := BA.out.trans (hb1.mono BA.out.size)
    clear hb1
    go_wp2
    go_ret
    exact ⟨rfl, B1.out⟩
  · have e98 : (kd == 98) = false := by rw [beq_eq_false_iff_ne]; exact h98
    by_cases h118 : kd = 118
    · subst h118
      rw [if_neg (by decide), if_pos rfl] at HR
      rw [← HR.out] at c2
      go_enter Tryz.func52, Tryz.ntmps52
      go_wp2_with fail
      refine (c2.out _ BA.out).mono ?_
      rintro e w1 ⟨rfl, hb1⟩
      have B1 : Hid (Below w.heap.size w w1) := BA.out.trans (hb1.mono BA.out.size)
      clear hb1
      go_wp2
      go_ret
      exact ⟨rfl, B1.out⟩
    · have e118 : (kd == 118) = false := by rw [beq_eq_false_iff_ne]; exact h118
      by_cases h117 : kd = 117
      · subst h117
        rw [if_neg (by decide), if_neg (by decide), if_pos rfl] at HR
        rw [← HR.out] at c3
        go_enter Tryz.func52, Tryz.ntmps52
        go_wp2_with fail
        refine (c3.out _ BA.out).mono ?_
        rintro e w1 ⟨rfl, hb1⟩
        have B1 : Hid (Below w.heap.size w w1) := BA.out.trans (hb1.mono BA.out.size)
        clear hb1
        go_wp2
        go_ret
        exact ⟨rfl, B1.out⟩
      · have e117 : (kd == 117) = false := by rw [beq_eq_false_iff_ne]; exact h117
        by_cases h112 : kd = 112
        · subst h112
          rw [if_neg (by decide), if_neg (by decide), if_neg (by decide), if_pos rfl] at HR
          rw [← HR.out] at c4
          go_enter Tryz.func52, Tryz.ntmps52
          go_wp2_with fail
          refine (c4.out _ BA.out).mono ?_
          rintro e w1 ⟨rfl, hb1⟩
          have B1 : Hid (Below w.heap.size w w1) := BA.out.trans (hb1.mono BA.out.size)
          clear hb1
          go_wp2
          go_ret
          exact ⟨rfl, B1.out⟩
        · have e112 : (kd == 112) = false := by rw [beq_eq_false_iff_ne]; exact h112
          by_cases h100 : kd = 100
          · subst h100
            rw [if_neg (by decide), if_neg (by decide), if_neg (by decide), if_neg (by decide), if_pos rfl] at HR
            rw [← HR.out] at c5
            go_enter Tryz.func52, Tryz.ntmps52
            go_wp2_with fail
            refine (c5.out _ BA.out).mono ?_
            rintro e w1 ⟨rfl, hb1⟩
            have B1 : Hid (Below w.heap.size w w1) := BA.out.trans (hb1.mono BA.out.size)
            clear hb1
            go_wp2
            go_ret
            exact ⟨rfl, B1.out⟩
          · have e100 : (kd == 100) = false := by rw [beq_eq_false_iff_ne]; exact h100
            rw [if_neg h98, if_neg h118, if_neg h117, if_neg h112, if_neg h100] at HR
            clear h98 h118 h117 h112 h100
            go_enter Tryz.func52, Tryz.ntmps52
            go_wp2_with fail
            refine (seqKey_any _).mono ?_
            rintro e w1 ⟨rfl, hb1⟩
            have B1 : Hid (Below w.heap.size w w1) := BA.out.trans (hb1.mono BA.out.size)
            clear hb1
            go_wp2
            go_ret
            rw [HR.out]
            exact ⟨rfl, B1.out⟩

end Go.Proofs.YtajmkkjlhmeolaaGreatDoor
