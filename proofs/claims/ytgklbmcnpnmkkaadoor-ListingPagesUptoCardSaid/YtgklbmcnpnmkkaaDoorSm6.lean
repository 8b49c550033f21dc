/-
  SEVERAL SMALL TEXTS IN ONE.
-/
import Derived.Test.YtgklbmcnpnmkkaaDoorBase
import Derived.Test.YtgklbmcnpnmkkaaDoorSm3
/-
  Numbers as values: facts on wrap64 that 'omega' doesn't see (with one such fact as an equation of numbers in sight each step of a walk costs a minute).
-/
namespace Go.Proofs.YtgklbmcnpnmkkaaDoor
open Go.RowKit

theorem wrap_nn {n : Int} (h0 : 0 ≤ n) (h : n ≤ 4611686018427387904) : wrap64 n = n := by unfold wrap64; omega
theorem vwrap {n : Int} (h0 : 0 ≤ n) (h : n ≤ 4611686018427387904) : Value.int .i64 (wrap64 n) = Value.int .i64 n := by rw [wrap_nn h0 h]
theorem veq {a b : Int} (h : a = b) : Value.int .i64 a = Value.int .i64 b := by rw [h]
theorem vsucc {k : Nat} (h : (k : Int) ≤ 4611686018427387900) : Value.int .i64 (wrap64 ((k : Int) + 1)) = Value.int .i64 ((k : Int) + 1) := vwrap (by omega) (by omega)
theorem vnext {k : Nat} : Value.int .i64 ((k : Int) + 1) = Value.int .i64 ((k + 1 : Nat) : Int) := rfl
end Go.Proofs.YtgklbmcnpnmkkaaDoor

/-
  storehouseref20.SameVersion, SameUpload at data that is the same.
-/
namespace Go.Proofs.YtgklbmcnpnmkkaaDoor
open Go.RowKit Go.Lib

theorem blob_at {w : World} {a : Option Addr} {n c : Nat} {l : List Int} (h : SlAt w 1 (.slice a n c) (blobCells l)) : n = l.length ∧ l.length ≤ 140737488351232 ∧ ∀ (i : Nat) (x : Int), l[i]? = some x → ∃ b off, a = some ⟨b, off, none⟩ ∧ w.cell? ⟨b, off + i, none⟩ = some (.int .i64 x) := by
  obtain ⟨a', c', he, hl, hc⟩ := h
  injection he with h1 h2 h3
  subst h1 h2 h3
  have hbl : (blobCells l).length = l.length := by unfold blobCells; rw [List.length_map]
  refine ⟨hbl, by rw [← hbl]; exact hl, fun i x hx => ?_⟩
  obtain ⟨b, off, rfl, k⟩ := hc i [.int .i64 x] (by unfold blobCells; rw [List.getElem?_map, hx]; rfl)
  exact ⟨b, off, rfl, by have := k 0 _ rfl; simpa using this⟩
theorem part_at {w : World} {a : Option Addr} {n c : Nat} {l : List PartD} (h : SlAt w 5 (.slice a n c) (partCells l)) : n = l.length ∧ l.length ≤ 140737488351232 ∧ ∀ (i : Nat) (x : PartD), l[i]? = some x → ∃ b off, a = some ⟨b, off, none⟩ ∧ ∀ j u, x.cells[j]? = some u → w.cell? ⟨b, off + i * 5 + j, none⟩ = some u := by
  obtain ⟨a', c', he, hl, hc⟩ := h
  injection he with h1 h2 h3
  subst h1 h2 h3
  have hbl : (partCells l).length = l.length := by unfold partCells; rw [List.length_map]
  refine ⟨hbl, by rw [← hbl]; exact hl, fun i x hx => ?_⟩
  obtain ⟨b, off, rfl, k⟩ := hc i x.cells (by unfold partCells; rw [List.getElem?_map, hx]; rfl)
  exact ⟨b, off, rfl, k⟩
def verCells (p : VerD) (v : Value) : List Value := [.int .i64 p.seq, .bool p.null, .bool p.marker, .string ⟨p.etag.toArray⟩, .string ⟨p.type.toArray⟩, .int .i64 p.size, .int .i64 p.when_, v]
def uplCells (p : UplD) (v : Value) : List Value := [.int .i64 p.seq, .string ⟨p.bucket.toArray⟩, .string ⟨p.key.toArray⟩, .string ⟨p.type.toArray⟩, .string ⟨p.owner.toArray⟩, .int .i64 p.when_, v]

set_option maxHeartbeats 2000000 in
set_option maxRecDepth 100000 in
theorem rSameVer_any (p : VerD) (v v' : Value) (w : World) (h : SlAt w 1 v (blobCells p.blobs)) (h' : SlAt w 1 v' (blobCells p.blobs)) :
    Calls Tryd.prog 52 #[.agg (verCells p v).toArray, .agg (verCells p v').toArray] w fun e w' => e = .returned (.bool true) ∧ Below w.heap.size w w' := by
  obtain ⟨a, c, rfl, -⟩ := id h
  obtain ⟨a', c', rfl, -⟩ := id h'
  obtain ⟨hn, hl, ha⟩ := blob_at h
  obtain ⟨hn', _, ha'⟩ := blob_at h'
  have HA := Lib.hid ha
  have HA' := Lib.hid ha'
  rw [hn] at h h' ⊢
  clear h h' ha ha' hn hn'
  obtain ⟨q, u, m, e, t, z, y, l⟩ := p
  simp only at hl
  simp only [verCells] at HA HA' ⊢
  obtain ⟨W1, hW1⟩ : ∃ W1, W1 = (w.alloc (.cells #[.int .i64 q, .bool u, .bool m, .string ⟨e.toArray⟩, .string ⟨t.toArray⟩, .int .i64 z, .int .i64 y, .slice a l.length c] 31)).alloc (.cells #[.int .i64 q, .bool u, .bool m, .string ⟨e.toArray⟩, .string ⟨t.toArray⟩, .int .i64 z, .int .i64 y, .slice a' l.length c'] 31) := ⟨_, rfl⟩
  have B1 : Hid (Below w.heap.size w W1) := by show Below _ _ _; rw [hW1]; exact below_alloc (below_alloc (Below.refl _ _) (Nat.le_refl _) _) (Nat.le_refl _) _
  have X1 : Hid (W1.cell? ⟨w.heap.size, 7, none⟩ = some (.slice a l.length c)) := by show _ = _; rw [hW1]; exact cell_past _ (cell_new _ _ _ _ _ _ rfl rfl)
  have X2 : Hid (W1.cell? ⟨w.heap.size + 1, 7, none⟩ = some (.slice a' l.length c')) := by show _ = _; rw [hW1]; exact cell_new _ _ _ _ _ _ (by simp) rfl
  go_enter Tryd.func52, Tryd.ntmps52
  go_wp2_with fail
  go_loopg [5] l.length (fun gg s5 wr => ∃ i : Nat, i ≤ l.length ∧ l.length - i ≤ gg ∧ s5 = .int .i64 i ∧ ∃ n, wr = W1.drewN n)
  case atStart => exact ⟨0, Nat.zero_le _, by omega, rfl, 0, by rw [hW1]; rfl⟩
  case round =>
    obtain ⟨i, hin, hgg, rfl, nq, rfl⟩ := hrel
    clear hW1
    have k7 : W1.cell? ⟨w.heap.size, 7, none⟩ = some (.slice a l.length c) := X1.out
    have m7 : W1.cell? ⟨w.heap.size + 1, 7, none⟩ = some (.slice a' l.length c') := X2.out
    by_cases hlt : i < l.length
    · obtain ⟨x, hx⟩ : ∃ x, l[i]? = some x := ⟨_, List.getElem?_eq_getElem hlt⟩
      obtain ⟨b, off, ha, hc⟩ := HA.out i x hx
      obtain ⟨b', off', ha', hc'⟩ := HA'.out i x hx
      rw [ha] at k7
      rw [ha'] at m7
      have HAE := Lib.hid ha
      have HAE' := Lib.hid ha'
      have k0 := cell_later B1.out hc
      have m0 := cell_later B1.out hc'
      have hltz : (i : Int) < (l.length : Int) := by omega
      clear hx hc hc' ha ha'
      go_wp2_with fail
      go_quiet (fail)
      go_wp2_with fail
      go_roundg (l.length - (i + 1))
      case measure => omega
      case rel => exact ⟨i + 1, by omega, Nat.le_refl _, vnext, _, rfl⟩
    · obtain rfl : i = l.length := by omega
      go_wp2_with fail
      go_ret
      exact ⟨rfl, below_drewN B1.out _⟩

theorem eqin_part (r : PartD) (w : World) : (Op.equalIn 10000 68 (.agg r.cells.toArray) (.agg r.cells.toArray)).run Tryd.prog w = .ok true w := by
  have hS : Tryd.prog.underlying 68 = some (.struct (Tryd.prog.fieldsOf 68)) := by kernel_rfl
  have hp : Tryd.prog.stoodInHeld 68 = false := by kernel_rfl
  rw [show (10000 : Nat) = 9999 + 1 from rfl, run_equalIn_agg w 9999 68 _ _ hS hp]
  simp only [Program.fieldsOf, Tryd.underlying68, PartD.cells]
  go_simp
theorem neq_part (r : PartD) (w : World) : (binOp .neq 68 (.agg r.cells.toArray) (.agg r.cells.toArray)).run Tryd.prog w = .ok (.bool false) w := by
  rw [run_neq_struct, eqin_part]; rfl
set_option maxHeartbeats 2000000 in
set_option maxRecDepth 100000 in
theorem rSameUpl_any (p : UplD) (v v' : Value) (w : World) (h : SlAt w 5 v (partCells p.parts)) (h' : SlAt w 5 v' (partCells p.parts)) :
    Calls Tryd.prog 53 #[.agg (uplCells p v).toArray, .agg (uplCells p v').toArray] w fun e w' => e = .returned (.bool true) ∧ Below w.heap.size w w' := by
  obtain ⟨a, c, rfl, -⟩ := id h
  obtain ⟨a', c', rfl, -⟩ := id h'
  obtain ⟨hn, hl, ha⟩ := part_at h
  obtain ⟨hn', _, ha'⟩ := part_at h'
  have HA := Lib.hid ha
  have HA' := Lib.hid ha'
  rw [hn] at h h' ⊢
  clear h h' ha ha' hn hn'
  obtain ⟨q, k1, k2, k3, k4, y, l⟩ := p
  simp only at hl
  simp only [uplCells] at HA HA' ⊢
  obtain ⟨W1, hW1⟩ : ∃ W1, W1 = (w.alloc (.cells #[.int .i64 q, .string ⟨k1.toArray⟩, .string ⟨k2.toArray⟩, .string ⟨k3.toArray⟩, .string ⟨k4.toArray⟩, .int .i64 y, .slice a l.length c] 34)).alloc (.cells #[.int .i64 q, .string ⟨k1.toArray⟩, .string ⟨k2.toArray⟩, .string ⟨k3.toArray⟩, .string ⟨k4.toArray⟩, .int .i64 y, .slice a' l.length c'] 34) := ⟨_, rfl⟩
  have B1 : Hid (Below w.heap.size w W1) := by show Below _ _ _; rw [hW1]; exact below_alloc (below_alloc (Below.refl _ _) (Nat.le_refl _) _) (Nat.le_refl _) _
  have X1 : Hid (W1.cell? ⟨w.heap.size, 6, none⟩ = some (.slice a l.length c)) := by show _ = _; rw [hW1]; exact cell_past _ (cell_new _ _ _ _ _ _ rfl rfl)
  have X2 : Hid (W1.cell? ⟨w.heap.size + 1, 6, none⟩ = some (.slice a' l.length c')) := by show _ = _; rw [hW1]; exact cell_new _ _ _ _ _ _ (by simp) rfl
  go_enter Tryd.func53, Tryd.ntmps53
  go_wp2_with fail
  go_loopg [5] l.length (fun gg s5 wr => ∃ i : Nat, i ≤ l.length ∧ l.length - i ≤ gg ∧ s5 = .int .i64 i ∧ ∃ n, wr = W1.drewN n)
  case atStart => exact ⟨0, Nat.zero_le _, by omega, rfl, 0, by rw [hW1]; rfl⟩
  case round =>
    obtain ⟨i, hin, hgg, rfl, nq, rfl⟩ := hrel
    clear hW1
    have k7 : W1.cell? ⟨w.heap.size, 6, none⟩ = some (.slice a l.length c) := X1.out
    have m7 : W1.cell? ⟨w.heap.size + 1, 6, none⟩ = some (.slice a' l.length c') := X2.out
    by_cases hlt : i < l.length
    · obtain ⟨x, hx⟩ : ∃ x, l[i]? = some x := ⟨_, List.getElem?_eq_getElem hlt⟩
      obtain ⟨b, off, ha, hc⟩ := HA.out i x hx
      obtain ⟨b', off', ha', hc'⟩ := HA'.out i x hx
      rw [ha] at k7
      rw [ha'] at m7
      have HAE := Lib.hid ha
      have HAE' := Lib.hid ha'
      have hcc := fun j u hj => cell_later B1.out (hc j u hj)
      have hcc' := fun j u hj => cell_later B1.out (hc' j u hj)
      have hltz : (i : Int) < (l.length : Int) := by omega
      clear hx hc hc' ha ha'
      obtain ⟨x0, x1, x2, x3, x4⟩ := x
      have c0 := hcc 0 _ rfl
      have c1 := hcc 1 _ rfl
      have c2 := hcc 2 _ rfl
      have c3 := hcc 3 _ rfl
      have c4 := hcc 4 _ rfl
      have d0 := hcc' 0 _ rfl
      have d1 := hcc' 1 _ rfl
      have d2 := hcc' 2 _ rfl
      have d3 := hcc' 3 _ rfl
      have d4 := hcc' 4 _ rfl
      simp only [Nat.add_zero] at c0 d0
      clear hcc hcc'
      have HN := Lib.hid (fun w => neq_part ⟨x0, x1, x2, x3, x4⟩ w)
      have hne := fun nq => HN.out (W1.drewN nq)
      simp only [PartD.cells] at hne
      go_wp2_with fail
      go_quiet (fail)
      go_wp2_with fail
      go_roundg (l.length - (i + 1))
      case measure => omega
      case rel => exact ⟨i + 1, by omega, Nat.le_refl _, vnext, _, rfl⟩
    · obtain rfl : i = l.length := by omega
      go_wp2_with fail
      go_ret
      exact ⟨rfl, below_drewN B1.out _⟩
end Go.Proofs.YtgklbmcnpnmkkaaDoor

/-
  storehouseref20.seq.
-/
namespace Go.Proofs.YtgklbmcnpnmkkaaDoor
open Go.RowKit Go.Lib

def kindI : Kind → Int
  | .objs => 0
  | .vers => 1
  | .upls => 2

set_option maxHeartbeats 2000000 in
set_option maxRecDepth 100000 in
theorem rSeq_any (k : Kind) (p : RowV) (w : World) : Calls Tryd.prog 55 #[.agg p.cells.toArray, .int .i64 (kindI k)] w fun e w' => e = .returned (.int .i64 (seqOf k p.d)) ∧ Below w.heap.size w w' := by
  have B : Hid (∀ o, Below w.heap.size w (w.alloc o)) := fun o => (Below.refl _ w).alloc (Nat.le_refl _) _
  obtain ⟨⟨key, common, latest, ⟨seq, null, marker, etag, typ, size, when_, blobs⟩, ⟨useq, ubucket, ukey, utyp, uowner, uwhen, parts⟩⟩, vb, vp⟩ := p
  simp only [RowV.cells]
  go_enter Tryd.func55, Tryd.ntmps55
  cases k
  · simp only [kindI, seqOf]
    go_wp2_with fail
    go_ret
    exact ⟨rfl, B.out _⟩
  · simp only [kindI, seqOf]
    go_wp2_with fail
    go_ret
    exact ⟨rfl, B.out _⟩
  · simp only [kindI, seqOf]
    go_wp2_with fail
    go_ret
    exact ⟨rfl, B.out _⟩
end Go.Proofs.YtgklbmcnpnmkkaaDoor
