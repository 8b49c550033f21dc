/-
  Due: what it computes, and its walk.
-/
import Derived.Test.YtnnfcbebjbfkoaaDoorSm
namespace Go.Proofs.YtnnfcbebjbfkoaaDoor
open Go.RowKit

def lateOne (vs : List VersionV) (i : Nat) (now : Int) (r : RuleV) : Bool :=
  match i with
  | 0 => match vs[0]? with
    | some v => if v.marker then vs.length == 1 && decide (0 < r.days) else behindB now v.when_ r.days
    | none => false
  | k + 1 => match vs[k]? with
    | some v => behindB now v.when_ r.nonc
    | none => false

/-- one version: the numbers told so far, and whether a marker is due -/
def dueStep (rs : List RuleV) (mode : Int) (vs : List VersionV) (now : Int) (i : Nat) (v : VersionV) (o : List Int × Bool) : List Int × Bool :=
  if rs.any (lateOne vs i now) then if i = 0 ∧ v.marker = false ∧ mode ≠ 0 then (o.1, true) else (o.1 ++ [v.seq], o.2) else o
def dueTo (rs : List RuleV) (mode : Int) (vs : List VersionV) (now : Int) : Nat → List Int × Bool
  | 0 => ([], false)
  | i + 1 => match vs[i]? with
    | some v => dueStep rs mode vs now i v (dueTo rs mode vs now i)
    | none => dueTo rs mode vs now i
/-- what is due of some versions by the rules l -/
def due (l : List RuleV) (mode : Int) (key : ByteArray) (vs : List VersionV) (now : Int) : List Int × Bool :=
  dueTo (l.filter fun r => fitsB r key) mode vs now vs.length

theorem dueTo_succ {rs : List RuleV} {mode : Int} {vs : List VersionV} {now : Int} {i : Nat} {v : VersionV} (h : vs[i]? = some v) : dueTo rs mode vs now (i + 1) = dueStep rs mode vs now i v (dueTo rs mode vs now i) := by
  simp [dueTo, h]
theorem dueTo_len (rs : List RuleV) (mode : Int) (vs : List VersionV) (now : Int) : ∀ i, (dueTo rs mode vs now i).1.length ≤ i
  | 0 => by simp [dueTo]
  | i + 1 => by
    have := dueTo_len rs mode vs now i
    unfold dueTo
    split
    · unfold dueStep
      split
      · split
        · simp; omega
        · simp; omega
      · omega
    · omega

/-- rules whose numbers are ints -/
def RuleOK (r : RuleV) : Prop := IntOK r.days ∧ IntOK r.nonc ∧ IntOK r.abort
abbrev RuleW := {r : RuleV // RuleOK r}
instance : Inhabited RuleW := ⟨⟨⟨ByteArray.empty, ByteArray.empty, false, 0, 0, 0⟩, by unfold RuleOK IntOK; simp⟩⟩
def VersionV.OK (v : VersionV) : Prop := IntOK v.seq ∧ IntOK v.when_

/-- the world's slice v holds the versions l -/
def VersionsIn (w : World) (v : Value) (l : List VersionV) : Prop :=
  ∃ a c, v = .slice a l.length c ∧ l.length ≤ 2199023255552 ∧ (0 < l.length → ∃ b off, a = some ⟨b, off, none⟩ ∧ ∀ i r, l[i]? = some r → ∀ j u, r.cells[j]? = some u → w.cell? ⟨b, off + i * 8 + j, none⟩ = some u)

theorem VersionsIn.later {w w' : World} {v : Value} {l : List VersionV} (h : VersionsIn w v l) (hb : Below w.heap.size w w') : VersionsIn w' v l := by
  obtain ⟨a, c, rfl, hl, h⟩ := h
  refine ⟨a, c, rfl, hl, fun hp => ?_⟩
  obtain ⟨b, off, rfl, hc⟩ := h hp
  exact ⟨b, off, rfl, fun i r hr j u hu => by
    have := hc i r hr j u hu
    rw [hb.cell (World.block_lt_of_cell? w _ this)]; exact this⟩

theorem ver_cells {w : World} {b off : Nat} {r : VersionV} (h : ∀ j u, r.cells[j]? = some u → w.cell? ⟨b, off + j, none⟩ = some u) :
    w.cell? ⟨b, off, none⟩ = some (.int .i64 r.seq) ∧ w.cell? ⟨b, off + 1, none⟩ = some (.bool r.null) ∧ w.cell? ⟨b, off + 2, none⟩ = some (.bool r.marker) ∧
    w.cell? ⟨b, off + 3, none⟩ = some (.string r.etag) ∧ w.cell? ⟨b, off + 4, none⟩ = some (.string r.typ) ∧ w.cell? ⟨b, off + 5, none⟩ = some (.int .i64 r.size) ∧
    w.cell? ⟨b, off + 6, none⟩ = some (.int .i64 r.when_) ∧ w.cell? ⟨b, off + 7, none⟩ = some (.slice r.bA r.bN r.bC) :=
  ⟨h 0 _ rfl, h 1 _ rfl, h 2 _ rfl, h 3 _ rfl, h 4 _ rfl, h 5 _ rfl, h 6 _ rfl, h 7 _ rfl⟩

/-- the second closure, at the i-th version, whatever came behind -/
theorem late_any (vs : List VersionV) (hvs : ∀ v ∈ vs, v.OK) (now : Int) (hnow : IntOK now) (bi bn bv bw i : Nat) (val : Value) (v : VersionV) (w : World) (hv : vs[i]? = some v) (hV : VersionsIn w val vs)
    (c1 : w.cell? ⟨bi, 0, none⟩ = some (.int .i64 i)) (c2 : w.cell? ⟨bn, 0, none⟩ = some (.int .i64 now)) (c3 : w.cell? ⟨bv, 0, none⟩ = some val)
    (c4 : w.cell? ⟨bw, 2, none⟩ = some (.bool v.marker)) (c5 : w.cell? ⟨bw, 6, none⟩ = some (.int .i64 v.when_)) (r : RuleV) (hr : RuleOK r) :
    Calls Tryd.prog 28 #[r.val, .pointer (some ⟨bi, 0, none⟩), .pointer (some ⟨bn, 0, none⟩), .pointer (some ⟨bv, 0, none⟩), .pointer (some ⟨bw, 0, none⟩)] w fun e w' => e = .returned (.bool (lateOne vs i now r)) ∧ Below w.heap.size w w' := by
  obtain ⟨a, c, rfl, hl, h⟩ := hV
  have hi := (List.getElem?_eq_some_iff.1 hv).1
  obtain ⟨b, off, rfl, hc⟩ := h (by omega)
  cases i with
  | zero =>
    cases hm : v.marker with
    | true =>
      rw [hm] at c4
      have := late_marker r bi bn bv bw vs.length c (some ⟨b, off, none⟩) w (by omega) c1 c3 c4
      rw [show lateOne vs 0 now r = (vs.length == 1 && decide (0 < r.days)) from by simp [lateOne, hv, hm]]
      exact this
    | false =>
      rw [hm] at c4
      have := late_new r bi bn bv bw now v.when_ w hnow (hvs v (List.mem_of_getElem? hv)).2 hr.1 c1 c2 c4 c5
      rw [show lateOne vs 0 now r = behindB now v.when_ r.days from by simp [lateOne, hv, hm]]
      exact this
  | succ k =>
    have hk : k < vs.length := by omega
    have hu := List.getElem?_eq_getElem hk
    have := late_old r bi bn bv bw b off vs.length c k now vs[k].when_ w (by omega) hi hnow (hvs _ (List.getElem_mem hk)).2 hr.2.1 (by rw [c1]; congr 2) c2 c3 (ver_cells (hc k _ hu)).2.2.2.2.2.2.1
    rw [show lateOne vs (k + 1) now r = behindB now vs[k].when_ r.nonc from by simp [lateOne, hu]]
    exact this

end Go.Proofs.YtnnfcbebjbfkoaaDoor
