/-
  same: two entries, by key and number.
-/
import Derived.Test.YtgklbmcnpnmkkaaDoorLsRow
import Derived.Test.YtgklbmcnpnmkkaaDoorLsTellV
namespace Go.Proofs.YtgklbmcnpnmkkaaDoor
open Go.RowKit

def sameE (a b : RowD) : Bool := a.key == b.key && (a.common == b.common) && (a.ver.seq == b.ver.seq)
def SameOut (a b : RowD) (w : World) (e : Ending) (w' : World) : Prop := e = .returned (.bool (sameE a b)) ∧ Below w.heap.size w w'

set_option maxHeartbeats 4000000 in
set_option maxRecDepth 100000 in
theorem same_any (p q : RowV) (w : World) : Calls Tryd.prog 11 #[.agg p.cells.toArray, .agg q.cells.toArray] w (SameOut p.d q.d w) := by
  have B : Hid (∀ o1 o2, Below w.heap.size w ((w.alloc o1).alloc o2)) := fun o1 o2 => ((Below.refl _ w).alloc (Nat.le_refl _) _).alloc (by simp) _
  unfold SameOut
  obtain ⟨⟨key, common, latest, ⟨seq, null, marker, etag, typ, size, when_, blobs⟩, ⟨useq, ubucket, ukey, utyp, uowner, uwhen, parts⟩⟩, vb, vp⟩ := p
  obtain ⟨⟨key2, common2, latest2, ⟨seq2, null2, marker2, etag2, typ2, size2, when2, blobs2⟩, ⟨useq2, ubucket2, ukey2, utyp2, uowner2, uwhen2, parts2⟩⟩, vb2, vp2⟩ := q
  simp only [RowV.cells] 
  go_enter Tryd.func11, Tryd.ntmps11
  by_cases h1 : key = key2
  · by_cases h2 : common = common2
    · by_cases h3 : seq = seq2
      · go_wp2_with fail
        go_ret
        refine ⟨?_, B.out _ _⟩
        simp [sameE, *]
      · go_wp2_with fail
        go_ret
        refine ⟨?_, B.out _ _⟩
        simp [sameE, *]
    · go_wp2_with fail
      go_ret
      refine ⟨?_, B.out _ _⟩
      simp [sameE, *]
  · go_wp2_with fail
    go_ret
    refine ⟨?_, B.out _ _⟩
    simp [sameE, *]
end Go.Proofs.YtgklbmcnpnmkkaaDoor
