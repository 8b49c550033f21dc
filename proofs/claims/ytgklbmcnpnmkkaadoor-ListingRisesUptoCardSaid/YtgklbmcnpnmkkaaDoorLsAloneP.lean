/-
  The sorted rows as a list that is asked for pages; ListingAlone, plain.
-/
import Derived.Test.YtgklbmcnpnmkkaaDoorLsSortedP
import Derived.Test.YtgklbmcnpnmkkaaDoorLsExP
import Derived.Test.YtgklbmcnpnmkkaaDoorLsLawP
namespace Go.Proofs.YtgklbmcnpnmkkaaDoor
open Go.RowKit Go.Lib

theorem sortedV_len (ps : List RowV) : (sortedV ps).length ≤ 200 := by
  have := (sortedL_ok (ps.map RowV.d)).2.2
  rwa [← sortedV_d, List.length_map] at this
theorem SrtOut.rows {ps : List RowV} {w w' : World} {e : Ending} {va : Value} (h : SrtOut ps w e w') (hr : RowsIn w va ps) : ∃ v, e = .returned v ∧ RowsIn w' v (sortedV ps) ∧ Below w.heap.size w w' ∧ ∀ q ∈ sortedV ps, ∃ p ∈ ps, q = fitV p := by
  obtain ⟨v, rfl, ho, hb⟩ := h
  have hs : SrtAt w w' ps 200 (sortedV ps) v := ⟨ho, rfl, sortedV_len ps, hb⟩
  exact ⟨v, rfl, hs.rowsIn hr (Nat.le_refl _) (Below.refl _ _), hb, hs.mem⟩
/-- the sorted rows are a list that is asked for pages -/
theorem sorted_list {ps : List RowV} {w : World} {a : Option Addr} {c : Nat} {pre delim : List UInt8} (h : RowsIn w (.slice a (sortedV ps).length c) (sortedV ps)) (hG : GlobL w) (hm : ∀ q ∈ sortedV ps, ∃ p ∈ ps, q = fitV p) (hz : ∀ p ∈ ps, SizeOK p.d) (hk : ∀ p ∈ ps, p.d.key.length ≤ 140737488355320 ∧ (delim = [] ∨ p.d.key.length < 4294967280)) (hp : pre.length ≤ 140737488355328) (hd : delim.length ≤ 140737488355328) :
    ListIn w a c (sortedV ps) pre delim := by
  refine ⟨h, hG.max, fun q hq => ?_, fun q hq => ?_, by have := sortedV_len ps; omega, hp, hd⟩
  · obtain ⟨p, h1, rfl⟩ := hm q hq
    exact hz p h1
  · obtain ⟨p, h1, rfl⟩ := hm q hq
    have := hk p h1
    show (107 :: p.d.key).length ≤ _ ∧ (_ ∨ (107 :: p.d.key).length < _)
    rw [List.length_cons]
    exact ⟨by omega, this.2.imp id (fun h => by omega)⟩
theorem page_alone (l : List RowD) : pageL .vers (sortedL l) [] [] [] 0 1000 = ⟨(sortedL l).map (told .vers), false, [], 0⟩ := by
  obtain ⟨h1, h2, h3⟩ := sortedL_ok l
  unfold pageL
  have he := sortedE (pre := []) (delim := []) h1 h2
  have ha : ents .vers [] [] rowZ (sortedL l) = (sortedL l).map (told .vers) := ents_alone .vers _ _ (fun r hr => (h2 r hr).1)
  rw [ha] at he ⊢
  exact page_all he (by rw [List.length_map]; omega)
end Go.Proofs.YtgklbmcnpnmkkaaDoor
