/-
  '==' of places.
-/
import Derived.Test.YtajmkkjlhmeolaaGreatDoorMtKeys
namespace Go.Proofs.YtajmkkjlhmeolaaGreatDoor
open Go.RowKit

deriving instance DecidableEq for PlaceV
theorem bytes_beq (a b : ByteArray) : (a == b) = decide (a = b) := by
  cases a with | mk x => cases b with | mk y => show (x == y) = _; rw [Bool.eq_iff_iff, beq_iff_eq, decide_eq_true_iff]; simp
theorem str_beq (x y : List UInt8) : ((⟨x.toArray⟩ : ByteArray) == ⟨y.toArray⟩) = decide (x = y) := by
  rw [bytes_beq]; congr 1; simp

abbrev PlaceV.ag (p : PlaceV) : Value := .agg #[.int .u8 p.kind, .string ⟨p.bucket.toArray⟩, .string ⟨p.key.toArray⟩, .int .i64 p.seq, .int .i64 p.num]

theorem eqin_place (p q : PlaceV) (w : World) : (Op.equalIn 10000 25 p.ag q.ag).run Tryz.prog w = .ok (decide (p = q)) w := by
  have hS : Tryz.prog.underlying 25 = some (.struct (Tryz.prog.fieldsOf 25)) := by kernel_rfl
  have hp : Tryz.prog.stoodInHeld 25 = false := by kernel_rfl
  rw [show (10000 : Nat) = 9999 + 1 from rfl, run_equalIn_agg w 9999 25 _ _ hS hp]
  simp only [Program.fieldsOf, Tryz.underlying25]
  obtain ⟨k, b, n, s, m⟩ := p
  obtain ⟨k', b', n', s', m'⟩ := q
  by_cases h1 : k = k'
  · subst h1
    by_cases h2 : b = b'
    · subst h2
      by_cases h3 : n = n'
      · subst h3
        by_cases h4 : s = s'
        · subst h4
          by_cases h5 : m = m'
          · subst h5
            go_simp
          · have e : (m == m') = false := by rw [beq_eq_false_iff_ne]; exact h5
            go_simp
        · have e : (s == s') = false := by rw [beq_eq_false_iff_ne]; exact h4
          go_simp
      · have e : ((⟨n.toArray⟩ : ByteArray) == ⟨n'.toArray⟩) = false := by rw [str_beq]; simp [h3]
        go_simp
    · have e : ((⟨b.toArray⟩ : ByteArray) == ⟨b'.toArray⟩) = false := by rw [str_beq]; simp [h2]
      go_simp
  · have e : (k == k') = false := by rw [beq_eq_false_iff_ne]; exact h1
    go_simp
theorem neq_place (p q : PlaceV) (w : World) : (binOp .neq 25 p.ag q.ag).run Tryz.prog w = .ok (.bool (!decide (p = q))) w := by
  rw [run_neq_struct, eqin_place]; rfl
theorem eql_place (p q : PlaceV) (w : World) : (binOp .eql 25 p.ag q.ag).run Tryz.prog w = .ok (.bool (decide (p = q))) w := by
  rw [run_eql_struct, eqin_place]; rfl

end Go.Proofs.YtajmkkjlhmeolaaGreatDoor
