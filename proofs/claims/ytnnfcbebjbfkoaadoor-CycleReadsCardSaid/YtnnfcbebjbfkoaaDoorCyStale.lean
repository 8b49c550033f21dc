/-
  Stale: the walk.
-/
import Derived.Test.YtnnfcbebjbfkoaaDoorCyDue3
namespace Go.Proofs.YtnnfcbebjbfkoaaDoor
open Go.RowKit

structure UploadV where
  seq : Int
  bucket : ByteArray
  key : ByteArray
  typ : ByteArray
  owner : ByteArray
  when_ : Int
  pA : Option Addr
  pN : Nat
  pC : Nat
def UploadV.cells (u : UploadV) : List Value := [.int .i64 u.seq, .string u.bucket, .string u.key, .string u.typ, .string u.owner, .int .i64 u.when_, .slice u.pA u.pN u.pC]

def staleB (l : List RuleV) (u : UploadV) (now : Int) : Bool := l.any fun r => fitsB r u.key && behindB now u.when_ r.abort

set_option maxHeartbeats 400000 in
theorem stale1_any (r : RuleV) (hr : RuleOK r) (key : ByteArray) (when_ now : Int) (bu bn : Nat) (w : World) (o1 : IntOK now) (o2 : IntOK when_)
    (c1 : w.cell? ⟨bu, 2, none⟩ = some (.string key)) (c2 : w.cell? ⟨bu, 5, none⟩ = some (.int .i64 when_)) (c3 : w.cell? ⟨bn, 0, none⟩ = some (.int .i64 now)) :
    Calls Tryd.prog 45 #[r.val, .pointer (some ⟨bu, 0, none⟩), .pointer (some ⟨bn, 0, none⟩)] w fun e w' => e = .returned (.bool (fitsB r key && behindB now when_ r.abort)) ∧ Below w.heap.size w w' := by
  have hf := fits_any r key
  have hb := behind_any now when_ r.abort
  unfold RuleOK IntOK at hr
  obtain ⟨_, _, hr1, hr2⟩ := hr
  obtain ⟨o1a, o1b⟩ := o1; obtain ⟨o2a, o2b⟩ := o2
  have g1 := World.block_lt_of_cell? w _ c1
  have g3 := World.block_lt_of_cell? w _ c3
  simp only at g1 g3
  generalize hF : fitsB r key = F at hf
  have HF := Lib.hid hF
  have Hf := Lib.hid hf
  have Hb := Lib.hid hb
  clear hF hf hb
  obtain ⟨id, pre, on, d, nc, a⟩ := r
  cases F
  · go_enter Tryd.func45, Tryd.ntmps45
    simp only [RuleV.val]
    go_wp2_with fail
    refine (Hf.out _).mono ?_
    rintro e w1 ⟨rfl, hb1⟩
    go_wp2
    go_ret
    exact ⟨by simp, (below_alloc (Below.refl _ _) (Nat.le_refl _) _).trans (hb1.mono (by simp))⟩
  · go_enter Tryd.func45, Tryd.ntmps45
    simp only [RuleV.val]
    go_wp2_with fail
    refine (Hf.out _).mono ?_
    rintro e w1 ⟨rfl, hb1⟩
    have s1 := hb1.size
    simp at s1
    have d1 : w1.cell? ⟨bu, 2, none⟩ = _ := cell_later hb1 (cell_past _ c1)
    have d2 : w1.cell? ⟨bu, 5, none⟩ = _ := cell_later hb1 (cell_past _ c2)
    have d3 : w1.cell? ⟨bn, 0, none⟩ = _ := cell_later hb1 (cell_past _ c3)
    have d5 : w1.cell? ⟨w.heap.size, 5, none⟩ = some (.int .i64 a) := cell_later hb1 (cell_new _ _ _ _ _ _ rfl rfl)
    go_wp2_with (go_at_call 29; refine (Hb.out _ (by assumption) (by assumption) (by assumption) (by assumption) (by assumption)).mono ?_; rintro e w' ⟨rfl, rfl⟩)
    go_ret
    exact ⟨by simp, (below_alloc (Below.refl _ _) (Nat.le_refl _) _).trans (hb1.mono (by simp))⟩

set_option maxHeartbeats 400000 in
theorem stale_any (ls : List RuleW) (lv : Value) (u : UploadV) (now : Int) (w : World) (o1 : IntOK now) (o2 : IntOK u.when_) (hL : RulesIn w lv (ls.map Subtype.val)) :
    Calls Tryd.prog 33 #[lv, .agg #[.int .i64 u.seq, .string u.bucket, .string u.key, .string u.typ, .string u.owner, .int .i64 u.when_, .slice u.pA u.pN u.pC], .int .i64 now] w
      fun e w' => e = .returned (.bool (staleB (ls.map Subtype.val) u now)) ∧ Below w.heap.size w w' := by
  obtain ⟨al, cl, rfl⟩ : ∃ a c, lv = .slice a ls.length c := by obtain ⟨a, c, h, _⟩ := hL; rw [List.length_map] at h; exact ⟨a, c, h⟩
  have HL := Lib.hid hL
  clear hL
  have O1 := Lib.hid o1
  have O2 := Lib.hid o2
  clear o1 o2
  go_enter Tryd.func33, Tryd.ntmps33
  go_wp2_with fail
  refine (contains_any (α := RuleW) Subtype.val _ ls (fun r => fitsB r.val u.key && behindB now u.when_ r.val.abort) _ _ _ (HL.out.later (below_alloc (below_alloc (Below.refl _ _) (Nat.le_refl _) _) (Nat.le_refl _) _)) (fun _ _ => by kernel_rfl) (fun W r hW => ?hp)).mono ?_
  case hp =>
    refine (stale1_any r.val r.property u.key u.when_ now w.heap.size (w.heap.size + 1) W O1.out O2.out (cell_later hW (cell_past _ (cell_new _ _ _ _ _ _ rfl rfl))) (cell_later hW (cell_past _ (cell_new _ _ _ _ _ _ rfl rfl))) (cell_later hW (cell_new _ _ _ _ _ _ (by simp) rfl))).mono ?_
    rintro e w' ⟨he, hb'⟩
    exact ⟨he, hW.trans (hb'.mono hW.size)⟩
  obtain ⟨B, hB⟩ : ∃ B, Hid (staleB (ls.map Subtype.val) u now = B) := ⟨_, rfl⟩
  have hB2 : Hid ((ls.any fun r => fitsB r.val u.key && behindB now u.when_ r.val.abort) = B) := by
    show _ = _
    rw [← hB.out]; unfold staleB; rw [List.any_map]; rfl
  intro e w2 ⟨he, hb2⟩
  rw [hB2.out] at he
  subst he
  go_wp2
  go_ret
  refine ⟨by rw [hB.out]; rfl, (below_alloc (below_alloc (Below.refl _ _) (Nat.le_refl _) _) (Nat.le_refl _) _).trans (hb2.mono (by simp; omega))⟩

end Go.Proofs.YtnnfcbebjbfkoaaDoor
