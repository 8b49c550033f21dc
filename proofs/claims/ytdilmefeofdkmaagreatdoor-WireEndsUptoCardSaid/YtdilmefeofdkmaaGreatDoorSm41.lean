/-
  SEVERAL SMALL TEXTS IN ONE.
-/
import Derived.Test.YtdilmefeofdkmaaGreatDoorRows
import Derived.Test.YtdilmefeofdkmaaGreatDoorOpenList
import Derived.Test.YtdilmefeofdkmaaGreatDoorWiAllLaw
/-
  FOR A PROOF OF AN '..UptoSaid': WHAT THE BOUND GIVES. Copy it as <Name>Bulk.lean (put your seat's Name for YtdilmefeofdkmaaGreatDoor, the bound of 'uptoSmall' for 1048576), name it in GOCLAIM.json's 'order' behind <Name>Rows. By an AI agent, Sun Nov 15 2026. No person has read it. No macro, syntax, notation, axiom, sorry.
-/
namespace Go.Proofs.YtdilmefeofdkmaaGreatDoor.bulks

theorem one_le {H : Type} (d : DataW H) : 1 ≤ Rows.uptoBulk d := by
  cases d with
  | lit l => cases l <;> simp [Rows.uptoBulk]
  | nil => simp [Rows.uptoBulk]
  | ptr d => simp [Rows.uptoBulk]
  | slice elems spare => simp [Rows.uptoBulk]
  | agg parts => simp [Rows.uptoBulk]
  | iface t d => simp [Rows.uptoBulk]
  | map entries => simp [Rows.uptoBulk]
  | held h => simp [Rows.uptoBulk]

/-- a part's bulk is at most the whole's -/
theorem part_le {H : Type} {d : DataW H} {l : List (DataW H)} (h : d ∈ l) : Rows.uptoBulk d ≤ Rows.uptoBulkAll l := by
  induction l with
  | nil => cases h
  | cons x r ih =>
    simp only [Rows.uptoBulkAll]
    cases List.mem_cons.1 h with
    | inl e => subst e; omega
    | inr e => have := ih e; omega

theorem append {H : Type} (l r : List (DataW H)) : Rows.uptoBulkAll (l ++ r) = Rows.uptoBulkAll l + Rows.uptoBulkAll r := by
  induction l with
  | nil => simp [Rows.uptoBulkAll]
  | cons x l ih => simp only [List.cons_append, Rows.uptoBulkAll, ih]; omega

/-- so many values at the most -/
theorem length_le {H : Type} (l : List (DataW H)) : l.length ≤ Rows.uptoBulkAll l := by
  induction l with
  | nil => simp [Rows.uptoBulkAll]
  | cons x r ih => have := one_le x; simp only [Rows.uptoBulkAll, List.length_cons]; omega

/-- a slice's places, and what they hold -/
theorem slice_le {H : Type} (elems spare : List (DataW H)) : elems.length + spare.length + 1 ≤ Rows.uptoBulk (.slice elems spare) := by
  have h1 := length_le elems
  have h2 := length_le spare
  simp only [Rows.uptoBulk]
  omega
theorem slice_elems {H : Type} (elems spare : List (DataW H)) : Rows.uptoBulkAll elems + 1 ≤ Rows.uptoBulk (.slice elems spare) := by
  simp only [Rows.uptoBulk]
  omega

/-- a string's letters -/
theorem string_eq {H : Type} (bytes : List UInt8) : Rows.uptoBulk (DataW.lit (H := H) (.string bytes)) = bytes.length + 1 := by
  simp [Rows.uptoBulk]

/-- THE BOUND, as the builder hands it over ('hk') -/
theorem bound {H : Type} {l : List (DataW H)} (hk : Rows.uptoSmall H l = true) : Rows.uptoBulkAll l ≤ 1048576 := by
  simpa [Rows.uptoSmall] using hk

/-- ROOM: a slice of n elements of b bytes, grown by append: below the 2^48 bytes that append, make and a Builder bear. Here n up to 2^21, b up to 4,096: put your own numbers. -/
theorem room {n b : Nat} (hn : n ≤ 2097152) (hb : b ≤ 4096) : (n + n / 4 + 192) * b ≤ 281474976710656 := by
  have h : (n + n / 4 + 192) * b ≤ 2621632 * 4096 := Nat.mul_le_mul (by omega) hb
  omega

end Go.Proofs.YtdilmefeofdkmaaGreatDoor.bulks

/-
  WIRE: a list of texts, read as data, opened; its bulk.
-/
namespace Go.Proofs.YtdilmefeofdkmaaGreatDoor
open Go.RowKit

theorem elem_bulk {H : Type} {x : DataW H} {es sps : List (DataW H)} (h : x = .slice es sps ∨ (es = [] ∧ x = .nil)) {i : Nat} {d : DataW H} (hd : es[i]? = some d) : Rows.uptoBulk d ≤ Rows.uptoBulk x := by
  rcases h with rfl | ⟨rfl, _⟩
  · have := bulks.part_le (List.mem_of_getElem? hd)
    have := bulks.slice_elems es sps
    omega
  · simp at hd
theorem all_bulk {H : Type} {x : DataW H} {es sps : List (DataW H)} (h : x = .slice es sps ∨ (es = [] ∧ x = .nil)) : Rows.uptoBulkAll es ≤ Rows.uptoBulk x := by
  rcases h with rfl | ⟨rfl, _⟩
  · have := bulks.slice_elems es sps
    omega
  · simp [Rows.uptoBulkAll]
theorem strs_bulk {H : Type} : ∀ (l : List (List UInt8)) (es : List (DataW H)), es.length = l.length → (∀ (i : Nat) (t : List UInt8), l[i]? = some t → es[i]? = some (.lit (.string t))) → l.flatten.length + l.length = Rows.uptoBulkAll es
  | [], [], _, _ => rfl
  | t :: l, e :: es, hl, h => by
    have h0 := h 0 t rfl
    simp only [List.getElem?_cons_zero, Option.some.injEq] at h0
    subst h0
    have ih := strs_bulk l es (by simpa using hl) (fun i t ht => by simpa using h (i + 1) t (by simpa using ht))
    simp only [Rows.uptoBulkAll, List.flatten_cons, List.length_append, List.length_cons, bulks.string_eq]
    omega
/-- the texts of a slice that is read -/
theorem open_strs {H : Type} {enc : TypeId × Value → H} {W : World} {held : Bool} {fuel : Nat} {cs : List Value} {x : DataW H × List MemPlace} (h : DataW.trod enc Tryz.prog W 0 (fun _ => true) held fuel 22 cs = some x) (hr : ∀ n ∈ DataW.weights Tryz.prog 22 x.1, n ≤ reachBytes) :
    ∃ (l : List (List UInt8)) (v : Value), cs = [v] ∧ SlAt W 1 v (strRows l) ∧ l.flatten.length + l.length ≤ Rows.uptoBulk x.1 := by
  obtain ⟨ls, a, c, es, sps, h1, _, h2, h3, h4, h5, h6⟩ := open_list (fun cs d (r : List UInt8) => cs = [.string ⟨r.toArray⟩] ∧ d = .lit (.string r)) Tryz.underlying22 (of_decide_eq_true (by kernel_rfl))
    (fun _ _ _ h _ => by obtain ⟨s, h1, hx⟩ := open_str Tryz.underlying9 h; exact ⟨s.data.toList, h1, by rw [hx]⟩) h hr
  rw [show Tryz.prog.bytesOf 9 = 16 by kernel_rfl] at h2
  unfold reachBytes at h2
  refine ⟨ls, _, h1, ⟨a, c, by rw [strRows_len], by rw [strRows_len]; omega, fun i r hi => ?_⟩, ?_⟩
  · simp only [strRows, List.getElem?_map, Option.map_eq_some_iff] at hi
    obtain ⟨r', hr', rfl⟩ := hi
    obtain ⟨b, off, rfl, hc⟩ := h6 (by have := (List.getElem?_eq_some_iff.1 hr').1; omega)
    obtain ⟨cs', d, ⟨rfl, _⟩, _, hc⟩ := hc i r' hr'
    rw [show Tryz.prog.cellsOf 9 = 1 by kernel_rfl] at hc
    exact ⟨b, off, rfl, hc⟩
  · rw [strs_bulk ls es h3 fun i t ht => by
      obtain ⟨_, d, ⟨_, rfl⟩, hd⟩ := h5 i t ht
      exact hd]
    exact all_bulk h4

end Go.Proofs.YtdilmefeofdkmaaGreatDoor
