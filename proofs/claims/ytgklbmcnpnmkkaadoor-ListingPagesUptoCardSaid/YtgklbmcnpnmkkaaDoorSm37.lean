/-
  SEVERAL SMALL TEXTS IN ONE.
-/
import Derived.Test.YtgklbmcnpnmkkaaDoorSm36
import Derived.Test.YtgklbmcnpnmkkaaDoorLsLawP
import Derived.Test.YtgklbmcnpnmkkaaDoorLsRow
import Derived.Test.YtgklbmcnpnmkkaaDoorSm3
/-
  The sorted rows as a list that is asked for pages; ListingAlone, plain.
-/
namespace Go.Proofs.YtgklbmcnpnmkkaaDoor
open Go.RowKit Go.Lib

theorem sortedV_len (ps : List RowV) : (sortedV ps).length ≤ 200 := by
  have := (sortedL_ok (ps.map RowV.d)).2.2
  rwa [← sortedV_d, List.length_map] at this
theorem SrtOut.rows {ps : List RowV} {w w' : World} {e : Ending} {va : Value} (h : SrtOut ps w e w') (hr : RowsIn w va ps) : ∃ v, e = .returned v ∧ RowsIn w' v (sortedV ps) ∧ Below w.heap.size w w' ∧ ∀ q ∈ sortedV ps, ∃ p ∈ ps, q = fitV p := by
  obtain ⟨v, rfl, ho, hb⟩ := h
  have hs : SrtAt w w' ps 200 (sortedV ps) v := ⟨ho, rfl, sortedV_len ps, hb⟩
  exact ⟨v, rfl, hs.rowsIn hr (Nat.le_refl _) (Below.refl _ _), hb, hs.mem⟩
/-- the sorted rows are a list that is asked for pages -/
theorem sorted_list {ps : List RowV} {w : World} {a : Option Addr} {c : Nat} {pre delim : List UInt8} (h : RowsIn w (.slice a (sortedV ps).length c) (sortedV ps)) (hG : GlobL w) (hm : ∀ q ∈ sortedV ps, ∃ p ∈ ps, q = fitV p) (hz : ∀ p ∈ ps, SizeOK p.d) (hk : ∀ p ∈ ps, p.d.key.length ≤ 140737488355320 ∧ (delim = [] ∨ p.d.key.length < 4294967280)) (hp : pre.length ≤ 140737488355328) (hd : delim.length ≤ 140737488355328) :
    ListIn w a c (sortedV ps) pre delim := by
  refine ⟨h, hG.max, fun q hq => ?_, fun q hq => ?_, by have := sortedV_len ps; omega, hp, hd⟩
  · obtain ⟨p, h1, rfl⟩ := hm q hq
    exact hz p h1
  · obtain ⟨p, h1, rfl⟩ := hm q hq
    have := hk p h1
    show (107 :: p.d.key).length ≤ _ ∧ (_ ∨ (107 :: p.d.key).length < _)
    rw [List.length_cons]
    exact ⟨by omega, this.2.imp id (fun h => by omega)⟩
theorem page_alone (l : List RowD) : pageL .vers (sortedL l) [] [] [] 0 1000 = ⟨(sortedL l).map (told .vers), false, [], 0⟩ := by
  obtain ⟨h1, h2, h3⟩ := sortedL_ok l
  unfold pageL
  have he := sortedE (pre := []) (delim := []) h1 h2
  have ha : ents .vers [] [] rowZ (sortedL l) = (sortedL l).map (told .vers) := ents_alone .vers _ _ (fun r hr => (h2 r hr).1)
  rw [ha] at he ⊢
  exact page_all he (by rw [List.length_map]; omega)
end Go.Proofs.YtgklbmcnpnmkkaaDoor

/-
  same: two entries, by key and number.
-/
namespace Go.Proofs.YtgklbmcnpnmkkaaDoor
open Go.RowKit

def sameE (a b : RowD) : Bool := a.key == b.key && (a.common == b.common) && (a.ver.seq == b.ver.seq)
def SameOut (a b : RowD) (w : World) (e : Ending) (w' : World) : Prop := e = .returned (.bool (sameE a b)) ∧ Below w.heap.size w w'

set_option maxHeartbeats 4000000 in
set_option maxRecDepth 100000 in
theorem same_any (p q : RowV) (w : World) : Calls Tryd.prog 11 #[.agg p.cells.toArray, .agg q.cells.toArray] w (SameOut p.d q.d w) := by
  have B : Hid (∀ o1 o2, Below w.heap.size w ((w.alloc o1).alloc o2)) := fun o1 o2 => ((Below.refl _ w).alloc (Nat.le_refl _) _).alloc (by simp) _
  unfold SameOut
  obtain ⟨⟨key, common, latest, ⟨seq, null, marker, etag, typ, size, when_, blobs⟩, ⟨useq, ubucket, ukey, utyp, uowner, uwhen, parts⟩⟩, vb, vp⟩ := p
  obtain ⟨⟨key2, common2, latest2, ⟨seq2, null2, marker2, etag2, typ2, size2, when2, blobs2⟩, ⟨useq2, ubucket2, ukey2, utyp2, uowner2, uwhen2, parts2⟩⟩, vb2, vp2⟩ := q
  simp only [RowV.cells] 
  go_enter Tryd.func11, Tryd.ntmps11
  by_cases h1 : key = key2
  · by_cases h2 : common = common2
    · by_cases h3 : seq = seq2
      · go_wp2_with fail
        go_ret
        refine ⟨?_, B.out _ _⟩
        simp [sameE, *]
      · go_wp2_with fail
        go_ret
        refine ⟨?_, B.out _ _⟩
        simp [sameE, *]
    · go_wp2_with fail
      go_ret
      refine ⟨?_, B.out _ _⟩
      simp [sameE, *]
  · go_wp2_with fail
    go_ret
    refine ⟨?_, B.out _ _⟩
    simp [sameE, *]
end Go.Proofs.YtgklbmcnpnmkkaaDoor

/-
  ListingWhole, ListingRises, plain: entries of sorted rows; pages in turn.
-/
namespace Go.Proofs.YtgklbmcnpnmkkaaDoor
open Go.RowKit Go.Lib

theorem told_size (k : Kind) {r : RowD} (h : SizeOK r) : SizeOK (told k r) := by
  obtain ⟨h1, h2⟩ := h
  cases k
  · exact ⟨h1, Nat.zero_le _⟩
  · exact ⟨h1, Nat.zero_le _⟩
  · exact ⟨Nat.zero_le _, h2⟩
theorem com_size (key : List UInt8) : SizeOK (comR key) := ⟨Nat.zero_le _, Nat.zero_le _⟩
theorem ent_size {k : Kind} {pre delim : List UInt8} {r e : RowD} (h : entOf k pre delim r = some e) (hr : SizeOK r) : SizeOK e := by
  obtain ⟨_, s, _, c⟩ := entOf_cases h
  rcases c with ⟨rfl, _⟩ | ⟨n, _, _, rfl⟩
  · exact told_size k hr
  · exact com_size _
theorem ents_size {k : Kind} {pre delim : List UInt8} {l : List RowD} (hl : ∀ r ∈ l, SizeOK r) : ∀ e ∈ ents k pre delim rowZ l, SizeOK e := by
  intro e he
  obtain ⟨r, hr, h⟩ := ents_mem l rowZ e he
  exact ent_size h (hl r hr)
theorem page_whole (l : List RowD) (pre delim : List UInt8) : pageL .vers (sortedL l) pre delim [] 0 1000 = ⟨ents .vers pre delim rowZ (sortedL l), false, [], 0⟩ := by
  obtain ⟨h1, h2, h3⟩ := sortedL_ok l
  have he := sortedE (pre := pre) (delim := delim) h1 h2
  have := ents_len (k := .vers) (pre := pre) (delim := delim) (sortedL l) rowZ
  exact page_all he (by omega)
theorem mostN_nat {m : Nat} (h : m ≤ 1000) : mostN (m : Int) = m := by unfold mostN; omega
/-- a page in its turn -/
theorem page_turn {A B : List RowD} {after : List UInt8} {seq : Int} {m : Nat} (h : SortedE (A ++ B)) (hs : StartAt A after seq) (h1 : 1 ≤ m) (h2 : m ≤ 1000) :
    (B.length ≤ m ∧ pageOf .vers after seq (m : Int) (A ++ B) = ⟨B, false, [], 0⟩) ∨
      (m < B.length ∧ ∃ after' seq', pageOf .vers after seq (m : Int) (A ++ B) = ⟨B.take m, true, after', seq'⟩ ∧ StartAt (A ++ B.take m) after' seq') := by
  rw [page_from h hs, mostN_nat h2]
  by_cases hl : m < B.length
  · refine .inr ⟨hl, _, _, by rw [if_pos ⟨by omega, hl⟩], start_next (by omega) hl⟩
  · refine .inl ⟨by omega, ?_⟩
    rw [if_neg (by omega), List.take_of_length_le (by omega)]
theorem sameE_refl (a : RowD) : sameE a a = true := by simp [sameE]
end Go.Proofs.YtgklbmcnpnmkkaaDoor
