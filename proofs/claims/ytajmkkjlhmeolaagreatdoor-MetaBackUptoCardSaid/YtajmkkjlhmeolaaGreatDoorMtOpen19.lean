/-
  BULK: what the bound gives of records and their told texts.
-/
import Derived.Test.YtajmkkjlhmeolaaGreatDoorSm45
import Derived.Test.YtajmkkjlhmeolaaGreatDoorMtOpen
import Derived.Test.YtajmkkjlhmeolaaGreatDoorMtBackP
namespace Go.Proofs.YtajmkkjlhmeolaaGreatDoor
open Go.RowKit Go.Lib

theorem elem_bulk {H : Type} {x : DataW H} {es sps : List (DataW H)} (h : x = .slice es sps ∨ (es = [] ∧ x = .nil)) {i : Nat} {d : DataW H} (hd : es[i]? = some d) : Rows.uptoBulk d ≤ Rows.uptoBulk x := by
  rcases h with rfl | ⟨rfl, _⟩
  · have := bulks.part_le (List.mem_of_getElem? hd)
    have := bulks.slice_elems es sps
    omega
  · simp at hd
theorem len_bulk {H : Type} {x : DataW H} {es sps : List (DataW H)} (h : x = .slice es sps ∨ (es = [] ∧ x = .nil)) : es.length ≤ Rows.uptoBulk x := by
  rcases h with rfl | ⟨rfl, _⟩
  · have := bulks.slice_le es sps
    omega
  · simp
theorem in_bulk {H : Type} {d : DataW H} {l : List (DataW H)} (h : d ∈ l) : Rows.uptoBulk d ≤ Rows.uptoBulk (.agg l) := by
  have h1 := bulks.part_le h
  simp only [Rows.uptoBulk]
  omega
theorem str_bulk {H : Type} {s : List UInt8} {l : List (DataW H)} {N : Nat} (h : DataW.lit (.string s) ∈ l) (hb : Rows.uptoBulk (.agg l) ≤ N) : s.length ≤ N := by
  have h1 := in_bulk h
  rw [bulks.string_eq] at h1
  omega

theorem fieldL_bound {t : List UInt8} {m : Nat} (h : t.length ≤ m) (hm : m < 9000000000000000000) : (fieldL t).length ≤ m + 30 := by
  have := itoa_length_le (t.length : Int) (by omega) (by omega)
  unfold fieldL
  simp only [List.length_append, List.length_cons, List.length_nil]
  omega
theorem numL_bound {n : Int} (h : IntOK n) : (numL n).length ≤ 60 := by
  have h1 := itoa_length_le n h.1 h.2
  have := fieldL_bound (t := itoa n) (m := 25) (by omega) (by omega)
  unfold numL
  omega
theorem flagN_ok (b : Bool) : IntOK (flagN b) := by cases b <;> (unfold flagN IntOK; simp)
theorem part_bound {p : PartV} (hi : p.IntsOK) (h : p.etag.length ≤ 1048576) : (partL p).length ≤ 140737488351232 := by
  rw [partL_eq]
  have e0 := fieldL_bound (t := [80]) (m := 1) (by simp) (by omega)
  have e1 := numL_bound hi.1
  have e2 := numL_bound hi.2.1
  have e3 := numL_bound hi.2.2.1
  have e4 := fieldL_bound h (by omega)
  have e5 := numL_bound hi.2.2.2
  simp only [List.length_append]
  omega
theorem up_bound {p : UpV} (h1 : IntOK p.seq) (h2 : IntOK p.when_) (s1 : p.bucket.length ≤ 1048576) (s2 : p.key.length ≤ 1048576) (s3 : p.type.length ≤ 1048576) (s4 : p.owner.length ≤ 1048576) : (upL p).length ≤ 140737488351232 := by
  unfold upL
  have e0 := fieldL_bound (t := [85]) (m := 1) (by simp) (by omega)
  have e1 := numL_bound h1
  have e2 := fieldL_bound s1 (by omega)
  have e3 := fieldL_bound s2 (by omega)
  have e4 := fieldL_bound s3 (by omega)
  have e5 := fieldL_bound s4 (by omega)
  have e6 := numL_bound h2
  simp only [List.length_append]
  omega
theorem ver_bound {p : VerV} (h1 : IntOK p.seq) (h2 : IntOK p.size) (h3 : IntOK p.when_) (h5 : ∀ x ∈ p.blobs, IntOK x) (s1 : p.etag.length ≤ 1048576) (s2 : p.type.length ≤ 1048576) (s3 : p.blobs.length ≤ 1048576) : (verL p).length ≤ 140737488351232 := by
  unfold verL
  have e0 := fieldL_bound (t := [86]) (m := 1) (by simp) (by omega)
  have e1 := numL_bound h1
  have e2 := numL_bound (flagN_ok p.null)
  have e3 := numL_bound (flagN_ok p.marker)
  have e4 := fieldL_bound s1 (by omega)
  have e5 := fieldL_bound s2 (by omega)
  have e6 := numL_bound h2
  have e7 := numL_bound h3
  have e8 := numL_bound (n := (p.blobs.length : Int)) (by unfold IntOK; omega)
  have e9 := flat_le (f := numL) (m := 60) p.blobs (fun x hx => numL_bound (h5 x hx))
  simp only [List.length_append]
  have : p.blobs.length * 60 ≤ 1048576 * 60 := Nat.mul_le_mul_right _ s3
  omega
theorem bk_bound {p : BkV} (h1 : IntOK p.when_) (h2 : IntOK p.mode) (h4 : ∀ r ∈ p.rules, (IntOK r.days ∧ IntOK r.nonc ∧ IntOK r.abort) ∧ r.id.length ≤ 1048576 ∧ r.pre.length ≤ 1048576) (s1 : p.name.length ≤ 1048576) (s2 : p.owner.length ≤ 1048576) (s3 : p.policy.length ≤ 1048576) (s4 : p.rules.length ≤ 1048576) : (bkL p).length ≤ 140737488351232 := by
  unfold bkL
  have e0 := fieldL_bound (t := [66]) (m := 1) (by simp) (by omega)
  have e1 := fieldL_bound s1 (by omega)
  have e2 := fieldL_bound s2 (by omega)
  have e3 := numL_bound h1
  have e4 := numL_bound h2
  have e5 := fieldL_bound s3 (by omega)
  have e6 := numL_bound (n := (p.rules.length : Int)) (by unfold IntOK; omega)
  have e7 := flat_le (f := rlL) (m := 3000000) p.rules (fun r hr => by
    obtain ⟨⟨g3, g4, g5⟩, g1, g2⟩ := h4 r hr
    unfold rlL
    have k1 := fieldL_bound g1 (by omega)
    have k2 := fieldL_bound g2 (by omega)
    have k3 := numL_bound (flagN_ok r.on)
    have k4 := numL_bound g3
    have k5 := numL_bound g4
    have k6 := numL_bound g5
    simp only [List.length_append]
    omega)
  simp only [List.length_append]
  have : p.rules.length * 3000000 ≤ 1048576 * 3000000 := Nat.mul_le_mul_right _ s4
  omega

end Go.Proofs.YtajmkkjlhmeolaaGreatDoor
