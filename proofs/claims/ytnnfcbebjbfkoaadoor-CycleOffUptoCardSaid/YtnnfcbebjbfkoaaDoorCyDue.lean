/-
  THE WALKS of chapter 22's Due: fits, behind, the closures.
-/
import Derived.Test.YtnnfcbebjbfkoaaDoorCyData
import Derived.Test.YtnnfcbebjbfkoaaDoorShelf
namespace Go.Proofs.YtnnfcbebjbfkoaaDoor
open Go.RowKit

def fitsB (r : RuleV) (key : ByteArray) : Bool := r.on && Lib.hasPrefix key.data.toList r.pre.data.toList
def behindB (now when_ n : Int) : Bool := decide (0 < n ∧ when_ ≤ now ∧ n * 86400 ≤ now - when_)
def RuleV.val (r : RuleV) : Value := .agg #[.string r.id, .string r.pre, .bool r.on, .int .i64 r.days, .int .i64 r.nonc, .int .i64 r.abort]

set_option maxHeartbeats 400000 in
theorem fits_any (r : RuleV) (key : ByteArray) (w : World) :
    Calls Tryd.prog 26 #[r.val, .string key] w fun e w' => e = .returned (.bool (fitsB r key)) ∧ Below w.heap.size w w' := by
  obtain ⟨id, pre, on, d, n, a⟩ := r
  cases on
  · go_enter Tryd.func26, Tryd.ntmps26
    simp only [RuleV.val]
    go_wp2_with (go_at_call 42; refine (Tryd.strings_HasPrefix _ _ _).mono ?_; rintro e w' ⟨rfl, rfl⟩)
    go_ret
    exact ⟨rfl, (Below.refl _ _).alloc (Nat.le_refl _) _⟩
  · go_enter Tryd.func26, Tryd.ntmps26
    simp only [RuleV.val]
    go_wp2_with (go_at_call 42; refine (Tryd.strings_HasPrefix _ _ _).mono ?_; rintro e w' ⟨rfl, rfl⟩)
    go_ret
    exact ⟨by simp [fitsB], (Below.refl _ _).alloc (Nat.le_refl _) _⟩

theorem behind_num (now when_ n : Int) (h1 : -9223372036854775808 ≤ now) (h2 : now ≤ 9223372036854775807) (h3 : -9223372036854775808 ≤ when_) (hn : 0 < n) (_h4 : when_ ≤ now) :
    decide (n ≤ IntKind.u64.wrap ((IntKind.u64.wrap (wrap64 (now - when_))).tdiv 86400)) = behindB now when_ n := by
  have e1 : IntKind.u64.wrap (wrap64 (now - when_)) = now - when_ := by rw [IntKind.wrap_u64]; unfold wrap64; omega
  rw [e1, Int.tdiv_eq_ediv_of_nonneg (by omega), IntWalk.u64_in _ (by omega)]
  unfold behindB
  rw [Bool.eq_iff_iff]
  simp only [decide_eq_true_iff]
  omega

set_option maxHeartbeats 400000 in
theorem behind_any (now when_ n : Int) (w : World) (h1 : -9223372036854775808 ≤ now) (h2 : now ≤ 9223372036854775807) (h3 : -9223372036854775808 ≤ when_) (_h4 : when_ ≤ 9223372036854775807) (h5 : n ≤ 9223372036854775807) :
    Calls Tryd.prog 29 #[.int .i64 now, .int .i64 when_, .int .i64 n] w fun e w' => e = .returned (.bool (behindB now when_ n)) ∧ w' = w := by
  by_cases hn : 0 < n
  · by_cases hw : when_ ≤ now
    · go_enter Tryd.func29, Tryd.ntmps29
      go_wp2
      go_ret
      exact ⟨by rw [← behind_num now when_ n h1 h2 h3 hn hw]; rfl, rfl⟩
    · go_enter Tryd.func29, Tryd.ntmps29
      go_wp2
      go_ret
      exact ⟨by simp [behindB]; omega, rfl⟩
  · go_enter Tryd.func29, Tryd.ntmps29
    go_wp2
    go_ret
    exact ⟨by simp [behindB]; omega, rfl⟩


/-- a version: its blobs are a slice that nobody here looks into -/
structure VersionV where
  seq : Int
  null : Bool
  marker : Bool
  etag : ByteArray
  typ : ByteArray
  size : Int
  when_ : Int
  bA : Option Addr
  bN : Nat
  bC : Nat
def VersionV.cells (v : VersionV) : List Value := [.int .i64 v.seq, .bool v.null, .bool v.marker, .string v.etag, .string v.typ, .int .i64 v.size, .int .i64 v.when_, .slice v.bA v.bN v.bC]

/-- the first closure of Due: not fits -/
theorem notFits_any (r : RuleV) (key : ByteArray) (g : Nat) (w : World) (hc : w.cell? ⟨g, 0, none⟩ = some (.string key)) :
    Calls Tryd.prog 25 #[r.val, .pointer (some ⟨g, 0, none⟩)] w fun e w' => e = .returned (.bool (!fitsB r key)) ∧ Below w.heap.size w w' := by
  obtain ⟨id, pre, on, d, n, a⟩ := r
  have hg : g < w.heap.size := World.block_lt_of_cell? w _ hc
  go_enter Tryd.func25, Tryd.ntmps25
  simp only [RuleV.val]
  go_wp2_with (go_at_call 26; refine (fits_any ⟨id, pre, on, d, n, a⟩ _ _).mono ?_; rintro e w' ⟨rfl, hb⟩)
  go_ret
  exact ⟨rfl, ((Below.refl _ _).alloc (Nat.le_refl _) _).trans (hb.mono (by simp))⟩


set_option maxHeartbeats 400000 in
/-- the second closure of Due at a version that is not the newest -/
theorem late_old (r : RuleV) (bi bn bv bw b off n c k : Nat) (now when_ : Int) (w : World) (hn : n ≤ 140737488351232) (hk : k + 1 < n) (o1 : IntOK now) (o2 : IntOK when_) (o3 : IntOK r.nonc)
    (c1 : w.cell? ⟨bi, 0, none⟩ = some (.int .i64 ((k : Int) + 1))) (c2 : w.cell? ⟨bn, 0, none⟩ = some (.int .i64 now)) (c3 : w.cell? ⟨bv, 0, none⟩ = some (.slice (some ⟨b, off, none⟩) n c))
    (c4 : w.cell? ⟨b, off + k * 8 + 6, none⟩ = some (.int .i64 when_)) :
    Calls Tryd.prog 28 #[r.val, .pointer (some ⟨bi, 0, none⟩), .pointer (some ⟨bn, 0, none⟩), .pointer (some ⟨bv, 0, none⟩), .pointer (some ⟨bw, 0, none⟩)] w fun e w' => e = .returned (.bool (behindB now when_ r.nonc)) ∧ Below w.heap.size w w' := by
  obtain ⟨id, pre, on, d, nc, a⟩ := r
  obtain ⟨o1a, o1b⟩ := o1; obtain ⟨o2a, o2b⟩ := o2; obtain ⟨o3a, o3b⟩ := o3
  have g1 := World.block_lt_of_cell? w _ c1
  have g2 := World.block_lt_of_cell? w _ c2
  have g3 := World.block_lt_of_cell? w _ c3
  have g4 := World.block_lt_of_cell? w _ c4
  simp only at g1 g2 g3 g4 o3a o3b
  go_enter Tryd.func28, Tryd.ntmps28
  simp only [RuleV.val]
  go_wp2
  go_quiet ((go_at_call 29; exact Calls.quiet_of_same (behind_any _ _ _ _ (by assumption) (by assumption) (by assumption) (by assumption) (by assumption))))
  go_wp2
  go_ret
  exact ⟨rfl, (by repeat (first | exact Below.refl _ _ | assumption | (refine below_drewN ?_ _) | (refine Below.alloc ?_ (by first | (simp; done) | (simp; omega) | omega) _) | (refine Below.setCell ?_ (by first | (simp; done) | (simp; omega) | omega) _)))⟩

set_option maxHeartbeats 400000 in
/-- .. at the newest version, a marker -/
theorem late_marker (r : RuleV) (bi bn bv bw n c : Nat) (a : Option Addr) (w : World) (hn : n ≤ 140737488351232)
    (c1 : w.cell? ⟨bi, 0, none⟩ = some (.int .i64 0)) (c3 : w.cell? ⟨bv, 0, none⟩ = some (.slice a n c)) (c4 : w.cell? ⟨bw, 2, none⟩ = some (.bool true)) :
    Calls Tryd.prog 28 #[r.val, .pointer (some ⟨bi, 0, none⟩), .pointer (some ⟨bn, 0, none⟩), .pointer (some ⟨bv, 0, none⟩), .pointer (some ⟨bw, 0, none⟩)] w fun e w' => e = .returned (.bool (n == 1 && decide (0 < r.days))) ∧ Below w.heap.size w w' := by
  obtain ⟨id, pre, on, d, nc, ab⟩ := r
  have g1 := World.block_lt_of_cell? w _ c1
  have g3 := World.block_lt_of_cell? w _ c3
  have g4 := World.block_lt_of_cell? w _ c4
  simp only at g1 g3 g4
  by_cases h1 : n = 1
  · subst h1
    go_enter Tryd.func28, Tryd.ntmps28
    simp only [RuleV.val]
    go_wp2
    go_ret
    exact ⟨rfl, (by repeat (first | exact Below.refl _ _ | assumption | (refine below_drewN ?_ _) | (refine Below.alloc ?_ (by first | (simp; done) | (simp; omega) | omega) _) | (refine Below.setCell ?_ (by first | (simp; done) | (simp; omega) | omega) _)))⟩
  · go_enter Tryd.func28, Tryd.ntmps28
    simp only [RuleV.val]
    go_wp2
    go_ret
    exact ⟨by simp [h1], (by repeat (first | exact Below.refl _ _ | assumption | (refine below_drewN ?_ _) | (refine Below.alloc ?_ (by first | (simp; done) | (simp; omega) | omega) _) | (refine Below.setCell ?_ (by first | (simp; done) | (simp; omega) | omega) _)))⟩

set_option maxHeartbeats 400000 in
/-- .. at the newest version, no marker -/
theorem late_new (r : RuleV) (bi bn bv bw : Nat) (now when_ : Int) (w : World) (o1 : IntOK now) (o2 : IntOK when_) (o3 : IntOK r.days)
    (c1 : w.cell? ⟨bi, 0, none⟩ = some (.int .i64 0)) (c2 : w.cell? ⟨bn, 0, none⟩ = some (.int .i64 now)) (c4 : w.cell? ⟨bw, 2, none⟩ = some (.bool false)) (c5 : w.cell? ⟨bw, 6, none⟩ = some (.int .i64 when_)) :
    Calls Tryd.prog 28 #[r.val, .pointer (some ⟨bi, 0, none⟩), .pointer (some ⟨bn, 0, none⟩), .pointer (some ⟨bv, 0, none⟩), .pointer (some ⟨bw, 0, none⟩)] w fun e w' => e = .returned (.bool (behindB now when_ r.days)) ∧ Below w.heap.size w w' := by
  obtain ⟨id, pre, on, d, nc, ab⟩ := r
  obtain ⟨o1a, o1b⟩ := o1; obtain ⟨o2a, o2b⟩ := o2; obtain ⟨o3a, o3b⟩ := o3
  have g1 := World.block_lt_of_cell? w _ c1
  have g2 := World.block_lt_of_cell? w _ c2
  have g4 := World.block_lt_of_cell? w _ c4
  simp only at g1 g2 g4 o3a o3b
  go_enter Tryd.func28, Tryd.ntmps28
  simp only [RuleV.val]
  go_wp2_with (go_at_call 29; refine (behind_any _ _ _ _ (by assumption) (by assumption) (by assumption) (by assumption) (by assumption)).mono ?_; rintro e w' ⟨rfl, rfl⟩)
  go_ret
  exact ⟨rfl, (by repeat (first | exact Below.refl _ _ | assumption | (refine below_drewN ?_ _) | (refine Below.alloc ?_ (by first | (simp; done) | (simp; omega) | omega) _) | (refine Below.setCell ?_ (by first | (simp; done) | (simp; omega) | omega) _)))⟩

end Go.Proofs.YtnnfcbebjbfkoaaDoor
