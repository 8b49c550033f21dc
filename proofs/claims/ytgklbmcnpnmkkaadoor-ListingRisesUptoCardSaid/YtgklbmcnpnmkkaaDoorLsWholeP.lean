/-
  ListingWhole, ListingRises, plain: entries of sorted rows; pages in turn.
-/
import Derived.Test.YtgklbmcnpnmkkaaDoorLsAloneP
import Derived.Test.YtgklbmcnpnmkkaaDoorLsSame
namespace Go.Proofs.YtgklbmcnpnmkkaaDoor
open Go.RowKit Go.Lib

theorem told_size (k : Kind) {r : RowD} (h : SizeOK r) : SizeOK (told k r) := by
  obtain ⟨h1, h2⟩ := h
  cases k
  · exact ⟨h1, Nat.zero_le _⟩
  · exact ⟨h1, Nat.zero_le _⟩
  · exact ⟨Nat.zero_le _, h2⟩
theorem com_size (key : List UInt8) : SizeOK (comR key) := ⟨Nat.zero_le _, Nat.zero_le _⟩
theorem ent_size {k : Kind} {pre delim : List UInt8} {r e : RowD} (h : entOf k pre delim r = some e) (hr : SizeOK r) : SizeOK e := by
  obtain ⟨_, s, _, c⟩ := entOf_cases h
  rcases c with ⟨rfl, _⟩ | ⟨n, _, _, rfl⟩
  · exact told_size k hr
  · exact com_size _
theorem ents_size {k : Kind} {pre delim : List UInt8} {l : List RowD} (hl : ∀ r ∈ l, SizeOK r) : ∀ e ∈ ents k pre delim rowZ l, SizeOK e := by
  intro e he
  obtain ⟨r, hr, h⟩ := ents_mem l rowZ e he
  exact ent_size h (hl r hr)
theorem page_whole (l : List RowD) (pre delim : List UInt8) : pageL .vers (sortedL l) pre delim [] 0 1000 = ⟨ents .vers pre delim rowZ (sortedL l), false, [], 0⟩ := by
  obtain ⟨h1, h2, h3⟩ := sortedL_ok l
  have he := sortedE (pre := pre) (delim := delim) h1 h2
  have := ents_len (k := .vers) (pre := pre) (delim := delim) (sortedL l) rowZ
  exact page_all he (by omega)
theorem mostN_nat {m : Nat} (h : m ≤ 1000) : mostN (m : Int) = m := by unfold mostN; omega
/-- a page in its turn -/
theorem page_turn {A B : List RowD} {after : List UInt8} {seq : Int} {m : Nat} (h : SortedE (A ++ B)) (hs : StartAt A after seq) (h1 : 1 ≤ m) (h2 : m ≤ 1000) :
    (B.length ≤ m ∧ pageOf .vers after seq (m : Int) (A ++ B) = ⟨B, false, [], 0⟩) ∨
      (m < B.length ∧ ∃ after' seq', pageOf .vers after seq (m : Int) (A ++ B) = ⟨B.take m, true, after', seq'⟩ ∧ StartAt (A ++ B.take m) after' seq') := by
  rw [page_from h hs, mostN_nat h2]
  by_cases hl : m < B.length
  · refine .inr ⟨hl, _, _, by rw [if_pos ⟨by omega, hl⟩], start_next (by omega) hl⟩
  · refine .inl ⟨by omega, ?_⟩
    rw [if_neg (by omega), List.take_of_length_le (by omega)]
theorem sameE_refl (a : RowD) : sameE a a = true := by simp [sameE]
end Go.Proofs.YtgklbmcnpnmkkaaDoor
