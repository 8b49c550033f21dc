/-
  storehouseref22: one, around.
-/
import Derived.Test.YtnnfcbebjbfkoaaDoorRxNum
import Derived.Test.YtnnfcbebjbfkoaaDoorCyTell2
namespace Go.Proofs.YtnnfcbebjbfkoaaDoor
open Go.RowKit Go.PlainAid

theorem rone_any (a b : ByteArray) (w : World) :
    Calls Tryd.prog 37 #[.string a, .string b] w fun e w' => e = .returned (.agg #[.string a, .string b, .slice none 0 0]) ∧ Below w.heap.size w w' := by
  go_enter Tryd.func37, Tryd.ntmps37
  go_wp2
  refine bodyPost_ret (results_cell1 rfl _ _ w.heap.size 24 _ _ rfl (heap_at _ _ rfl) Tryd.underlying24 rfl (by kernel_rfl)) rfl ?_
  exact ⟨rfl, (by repeat (first | exact Below.refl _ _ | assumption | (refine below_drewN ?_ _) | (refine Below.alloc ?_ (by first | (simp; done) | (simp; omega) | omega) _) | (refine Below.setCell ?_ (by first | (simp; done) | (simp; omega) | omega) _)))⟩

def AroundOut (nm kd : List UInt8) (n : Nat) (w : World) (e : Ending) (w' : World) : Prop :=
  ∃ g, e = .returned (.agg #[.string ⟨nm.toArray⟩, .string ⟨#[]⟩, .slice (some ⟨g, 0, none⟩) 1 1]) ∧ w.heap.size ≤ g ∧ g < w'.heap.size ∧
    TreeOn w' (fun b => b = g) (.node ⟨nm.toArray⟩ ⟨#[]⟩ [leafT kd ⟨(Lib.itoa n).toArray⟩]) (.string ⟨nm.toArray⟩) (.string ⟨#[]⟩) (.slice (some ⟨g, 0, none⟩) 1 1) ∧ Below w.heap.size w w'

set_option maxHeartbeats 1000000 in
theorem around_any (nm kd : List UInt8) (n : Nat) (w : World) (h1 : nm.length ≤ 100) (h2 : kd.length ≤ 100) (hn : n ≤ 9223372036854775807) :
    Calls Tryd.prog 38 #[.string ⟨nm.toArray⟩, .string ⟨kd.toArray⟩, .int .i64 n] w (AroundOut nm kd n w) := by
  have HD := Lib.hid (fun w => digits_any n w hn)
  have HT := Lib.hid (fun w7 => days_on w7 nm kd n h1 h2 (by unfold IntOK; omega))
  unfold DigOut at HD
  rw [← Lib.itoa_nonneg] at HD
  go_enter Tryd.func38, Tryd.ntmps38
  go_wp2_with fail
  refine (HD.out _).mono ?_
  rintro e w1 ⟨rfl, m, rfl⟩
  go_wp2_with fail
  refine (rone_any _ _ _).mono ?_
  rintro e w2 ⟨rfl, hb2⟩
  have hs := hb2.size
  simp at hs
  have B2 : Hid (Below w.heap.size w w2) := (below_drewN (below_alloc (Below.refl _ _) (Nat.le_refl _) _) _).trans (hb2.mono (by simp))
  have hh : w2.heap[w.heap.size]? = some (.cells #[.string ⟨#[]⟩, .string ⟨#[]⟩, .slice none 0 0] 24 (0, 0)) := (hb2.block _ (by simp)).trans (heap_at _ _ rfl)
  have HH := Lib.hid hh
  clear hb2
  have H2 : Hid ((w2.alloc (.cells #[.string ⟨kd.toArray⟩, .string ⟨(Lib.itoa n).toArray⟩, .slice none 0 0] 24)).heap[w.heap.size]? = some (.cells #[.string ⟨#[]⟩, .string ⟨#[]⟩, .slice none 0 0] 24 (0, 0))) := (Below.heap_alloc _ _ _ (by omega)).trans HH.out
  clear hh
  go_wp2_with (refine wpList_store_row (by rfl) 24 _ _ (by rfl) w.heap.size _ (by rfl) (by rfl) 24 _ (by exact H2.out) (by kernel_rfl) (by kernel_rfl) (by kernel_rfl) ?_)
  refine bodyPost_ret (results_cell1 rfl _ _ w.heap.size 24 _ _ rfl (setRow_heap _ _ _ _ _ _ H2.out) Tryd.underlying24 rfl (by kernel_rfl)) rfl ?_
  refine ⟨w2.heap.size, rfl, by omega, by simp, ?_, below_one_row _ _ _ _ _ (below_alloc B2.out (Nat.le_refl _) _) (Nat.le_refl _)⟩
  exact TreeOn.kept (fun b _ hob => setRow_other _ _ _ _ (by subst hob; omega)) (fun _ _ h => h) _ _ _ _ (HT.out w2)

end Go.Proofs.YtnnfcbebjbfkoaaDoor
