/-
  LISTING: what a row is told as (the functions that Objects, Versions, Uploads hand to page).
-/
import Derived.Test.YtgklbmcnpnmkkaaDoorLsRow
import Derived.Test.YtgklbmcnpnmkkaaDoorShelf
import Derived.Test.YtgklbmcnpnmkkaaDoorWpCall
namespace Go.Proofs.YtgklbmcnpnmkkaaDoor
open Go.RowKit

theorem flatten_at {sz : Nat} (hz : 0 < sz) : ∀ {rows : List (List Value)} {j : Nat} {u : Value}, (∀ r ∈ rows, r.length = sz) → rows.flatten[j]? = some u → ∃ i k r, j = i * sz + k ∧ rows[i]? = some r ∧ r[k]? = some u
  | [], j, u, _, h => by simp at h
  | r :: rows, j, u, hs, h => by
    have h0 := hs r (by simp)
    rw [List.flatten_cons] at h
    by_cases hj : j < sz
    · rw [List.getElem?_append_left (by omega)] at h
      exact ⟨0, j, r, by omega, rfl, h⟩
    · rw [List.getElem?_append_right (by omega), h0] at h
      obtain ⟨i, k, r', h1, h2, h3⟩ := flatten_at hz (fun r hr => hs r (by simp [hr])) h
      exact ⟨i + 1, k, r', by rw [Nat.add_mul]; omega, by simpa using h2, h3⟩

theorem info_int : ∃ i, Tryd.prog.info? 3 = some i ∧ i.zero = some (.int .i64 0) ∧ i.size = 1 ∧ i.bytes = 8 :=
  info_parts (show (Tryd.prog.info? 3).map (fun i => (i.zero, i.size, i.bytes)) = some (some (.int .i64 0), 1, 8) by kernel_rfl)
theorem info_part : ∃ i, Tryd.prog.info? 68 = some i ∧ i.zero = some (.agg #[.int .i64 0, .int .i64 0, .int .i64 0, .string ⟨#[]⟩, .int .i64 0]) ∧ i.size = 5 ∧ i.bytes = 48 :=
  info_parts (show (Tryd.prog.info? 68).map (fun i => (i.zero, i.size, i.bytes)) = some (some (.agg #[.int .i64 0, .int .i64 0, .int .i64 0, .string ⟨#[]⟩, .int .i64 0]), 5, 48) by kernel_rfl)

theorem blob_rows (l : List Int) : ∀ r ∈ blobCells l, r.length = 1 := by
  intro r hr
  obtain ⟨_, _, rfl⟩ := List.mem_map.1 hr
  rfl
theorem part_rows (l : List PartD) : ∀ r ∈ partCells l, r.length = 5 := by
  intro r hr
  obtain ⟨_, _, rfl⟩ := List.mem_map.1 hr
  rfl
theorem blob_one (l : List Int) : ∀ u ∈ (blobCells l).flatten, u.oneCell' = true := by
  intro u hu
  obtain ⟨r, hr, hu⟩ := List.mem_flatten.1 hu
  obtain ⟨x, _, rfl⟩ := List.mem_map.1 hr
  rw [List.mem_singleton] at hu
  subst hu
  rfl
theorem part_one (l : List PartD) : ∀ u ∈ (partCells l).flatten, u.oneCell' = true := by
  intro u hu
  obtain ⟨r, hr, hu⟩ := List.mem_flatten.1 hu
  obtain ⟨x, _, rfl⟩ := List.mem_map.1 hr
  simp only [PartD.cells, List.mem_cons, List.not_mem_nil, or_false] at hu
  rcases hu with rfl | rfl | rfl | rfl | rfl <;> rfl

set_option maxHeartbeats 4000000 in
set_option maxRecDepth 100000 in
theorem cloneI_empty (a : Option Addr) (c : Nat) (w : World) :
    Calls Tryd.prog 45 #[.slice a 0 c] w fun e w' => ∃ v, e = .returned v ∧ w'.ownsRow w.heap.size 3 1 v 0 [] ∧ Below w.heap.size w w' := by
  cases a with
  | none =>
    refine (Tryd.slices_Clone_nil_f45 0 c w).mono ?_
    rintro e w' ⟨rfl, rfl⟩
    exact ⟨_, rfl, World.ownsRow_nil _ _ _ _, Below.refl _ _⟩
  | some x =>
    have he := fun W => Lib.run_eql_slice_nil (P := Tryd.prog) W 29 3 (some x) 0 c 0 0 Tryd.underlying29
    go_enter Tryd.func45, Tryd.ntmps45
    go_wp2_with fail
    go_ret
    exact ⟨_, rfl, ⟨rfl, .inr ⟨w.heap.size, 0, #[], rfl, Nat.le_refl _, heap_alloc_new _ _, Nat.le_refl _, by simp [maxLen], rfl, rfl⟩⟩, below_alloc (Below.refl _ _) (Nat.le_refl _) _⟩
set_option maxHeartbeats 4000000 in
set_option maxRecDepth 100000 in
theorem cloneP_empty (a : Option Addr) (c : Nat) (w : World) :
    Calls Tryd.prog 40 #[.slice a 0 c] w fun e w' => ∃ v, e = .returned v ∧ w'.ownsRow w.heap.size 68 5 v 0 [] ∧ Below w.heap.size w w' := by
  cases a with
  | none =>
    refine (Tryd.slices_Clone_nil_f40 0 c w).mono ?_
    rintro e w' ⟨rfl, rfl⟩
    exact ⟨_, rfl, World.ownsRow_nil _ _ _ _, Below.refl _ _⟩
  | some x =>
    have he := fun W => Lib.run_eql_slice_nil (P := Tryd.prog) W 32 68 (some x) 0 c 0 0 Tryd.underlying32
    go_enter Tryd.func40, Tryd.ntmps40
    go_wp2_with fail
    go_ret
    exact ⟨_, rfl, ⟨rfl, .inr ⟨w.heap.size, 0, #[], rfl, Nat.le_refl _, heap_alloc_new _ _, Nat.le_refl _, by simp [maxLen], rfl, rfl⟩⟩, below_alloc (Below.refl _ _) (Nat.le_refl _) _⟩
set_option maxRecDepth 100000 in
theorem cloneI_any {w : World} {v : Value} {l : List Int} (h : SlAt w 1 v (blobCells l)) (hl : l.length ≤ 17592186043904) :
    Calls Tryd.prog 45 #[v] w fun e w' => ∃ v, e = .returned v ∧ w'.ownsRow w.heap.size 3 1 v l.length (blobCells l).flatten ∧ Below w.heap.size w w' := by
  obtain ⟨i0, hi, hz0, hz1, hz2⟩ := info_int
  obtain ⟨a, c, rfl, _, hc⟩ := h
  cases l with
  | nil => exact cloneI_empty a c w
  | cons x l =>
    obtain ⟨b, off, rfl, _⟩ := hc 0 _ rfl
    have hlen : (blobCells (x :: l)).length = (x :: l).length := by simp [blobCells]
    rw [hlen]
    refine (Tryd.slices_Clone_f45 i0 _ 1 8 hi hz0 hz1 hz2 rfl (by decide) (fun w => by first | rfl | kernel_rfl) b off (x :: l).length c (blobCells (x :: l)).flatten w (by rw [flatten_len (blob_rows _), hlen]) (by simp only [maxLen]; omega) (by omega) (fun j u hj => ?_) (blob_one _)).mono ?_
    · obtain ⟨i, k, r, rfl, h1, h2⟩ := flatten_at (by decide) (blob_rows _) hj
      obtain ⟨b', off', e, k0⟩ := hc i r h1
      injection e with e
      injection e with e1 e2 _
      subst e1 e2
      rw [← Nat.add_assoc]
      exact k0 k u h2
    · rintro e w' ⟨v', rfl, h1, _, h3⟩
      exact ⟨v', rfl, h1, h3⟩
set_option maxRecDepth 100000 in
theorem cloneP_any {w : World} {v : Value} {l : List PartD} (h : SlAt w 5 v (partCells l)) (hl : l.length ≤ 2932031007317) :
    Calls Tryd.prog 40 #[v] w fun e w' => ∃ v, e = .returned v ∧ w'.ownsRow w.heap.size 68 5 v l.length (partCells l).flatten ∧ Below w.heap.size w w' := by
  obtain ⟨i0, hi, hz0, hz1, hz2⟩ := info_part
  obtain ⟨a, c, rfl, _, hc⟩ := h
  cases l with
  | nil => exact cloneP_empty a c w
  | cons x l =>
    obtain ⟨b, off, rfl, _⟩ := hc 0 _ rfl
    have hlen : (partCells (x :: l)).length = (x :: l).length := by simp [partCells]
    rw [hlen]
    refine (Tryd.slices_Clone_f40 i0 _ 5 48 hi hz0 hz1 hz2 rfl (by decide) (fun w => by first | rfl | kernel_rfl) b off (x :: l).length c (partCells (x :: l)).flatten w (by rw [flatten_len (part_rows _), hlen]) (by simp only [maxLen]; omega) (by omega) (fun j u hj => ?_) (part_one _)).mono ?_
    · obtain ⟨i, k, r, rfl, h1, h2⟩ := flatten_at (by decide) (part_rows _) hj
      obtain ⟨b', off', e, k0⟩ := hc i r h1
      injection e with e
      injection e with e1 e2 _
      subst e1 e2
      rw [← Nat.add_assoc]
      exact k0 k u h2
    · rintro e w' ⟨v', rfl, h1, _, h3⟩
      exact ⟨v', rfl, h1, h3⟩
end Go.Proofs.YtgklbmcnpnmkkaaDoor
