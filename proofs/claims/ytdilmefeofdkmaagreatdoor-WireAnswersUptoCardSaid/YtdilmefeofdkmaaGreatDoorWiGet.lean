/-
  WIRE: requests that were told are read; two of them are the same (storehouseref16.Same).
-/
import Derived.Test.YtdilmefeofdkmaaGreatDoorWiAllLaw
import Derived.Test.YtdilmefeofdkmaaGreatDoorWiFld
namespace Go.Proofs.YtdilmefeofdkmaaGreatDoor
open Go.RowKit

theorem ReqRows.get {w : World} {ok : Nat → Prop} : ∀ {qs : List ReqV} {xs : List Value}, ReqRows w ok qs xs → ∀ {i : Nat} {q : ReqV}, qs[i]? = some q → ∃ v, xs[i * 6]? = some (.string ⟨q.meth.toArray⟩) ∧ xs[i * 6 + 1]? = some (.string ⟨q.target.toArray⟩) ∧ xs[i * 6 + 2]? = some (.int .i64 q.minor) ∧ xs[i * 6 + 3]? = some v ∧ xs[i * 6 + 4]? = some (.string ⟨q.body.toArray⟩) ∧ xs[i * 6 + 5]? = some (.bool q.close) ∧
      w.ownsRow 0 58 2 v q.fields.length (pairCells q.fields) ∧ ∀ b, v.ownBlock = some b → ok b
  | [], _, _, i, q, h => by simp at h
  | q0 :: qs, xs, ⟨v, r, h1, h2, h3, h4⟩, 0, q, h => by
    simp only [List.getElem?_cons_zero, Option.some.injEq] at h
    subst h h1
    exact ⟨v, rfl, rfl, rfl, rfl, rfl, rfl, h2, h3⟩
  | q0 :: qs, xs, ⟨v, r, h1, h2, h3, h4⟩, i + 1, q, h => by
    obtain ⟨v', k⟩ := ReqRows.get h4 (i := i) (q := q) (by simpa using h)
    subst h1
    refine ⟨v', ?_⟩
    rw [show (i + 1) * 6 = i * 6 + 6 from by omega]
    exact k

/-- a request that was told, in memory -/
theorem ReqsAt.at {w : World} {v : Value} {qs : List ReqV} {K : Nat → Prop} (h : ReqsAt w v qs K) {i : Nat} {q : ReqV} (hi : qs[i]? = some q) : ∃ g c vf, v = .slice (some ⟨g, 0, none⟩) qs.length c ∧ w.cell? ⟨g, i * 6, none⟩ = some (.string ⟨q.meth.toArray⟩) ∧ w.cell? ⟨g, i * 6 + 1, none⟩ = some (.string ⟨q.target.toArray⟩) ∧ w.cell? ⟨g, i * 6 + 2, none⟩ = some (.int .i64 q.minor) ∧ w.cell? ⟨g, i * 6 + 3, none⟩ = some vf ∧ w.cell? ⟨g, i * 6 + 4, none⟩ = some (.string ⟨q.body.toArray⟩) ∧ w.cell? ⟨g, i * 6 + 5, none⟩ = some (.bool q.close) ∧ w.ownsRow 0 58 2 vf q.fields.length (pairCells q.fields) ∧ (∀ b, vf.ownBlock = some b → K b) := by
  obtain ⟨xs, h1, h2, h3⟩ := h
  obtain ⟨vf, k0, k1, k2, k3, k4, k5, k6, k7⟩ := h2.get hi
  have hlt := (List.getElem?_eq_some_iff.1 hi).1
  obtain ⟨g, c, hv, _, _⟩ := h1.form (by omega)
  have hc : ∀ j u, xs[j]? = some u → w.cell? ⟨g, j, none⟩ = some u := fun j u hj => by
    have := h1.cells (g := g) (by rw [hv]; rfl) j u hj
    rwa [Addr.add_lit, Nat.zero_add] at this
  exact ⟨g, c, vf, hv, hc _ _ k0, hc _ _ k1, hc _ _ k2, hc _ _ k3, hc _ _ k4, hc _ _ k5, k6, k7⟩
theorem ReqsAt.form {w : World} {v : Value} {qs : List ReqV} {K : Nat → Prop} (h : ReqsAt w v qs K) : ∃ a c, v = .slice a qs.length c := by
  obtain ⟨xs, h1, _⟩ := h
  exact row_form h1
theorem ReqsAt.later {w w' : World} {v : Value} {qs : List ReqV} {K : Nat → Prop} (h : ReqsAt w v qs K) (hb : Below w.heap.size w w') : ReqsAt w' v qs K := h.kept fun b hl _ => hb.block b hl
theorem pairs_own {w : World} {v : Value} {fs : List (List UInt8 × List UInt8)} (h : w.ownsRow 0 58 2 v fs.length (pairCells fs)) (hl : fs.length ≤ 140737488351232) : PairsAt w v fs := by
  obtain ⟨a, c, hv⟩ := row_form h
  refine ⟨a, c, hv, ?_, hl, fun i f hf => ?_⟩
  · rcases h.2 with ⟨h1, h2⟩ | ⟨g, cap, cur, h1, _, _, h2, _⟩
    · rw [h2]; exact Nat.zero_le _
    · rw [hv] at h1; injection h1 with _ _ e; rw [e]; exact h2
  · have hlt := (List.getElem?_eq_some_iff.1 hf).1
    obtain ⟨g, c', hv2, _, _⟩ := h.form (by omega)
    have k1 := h.cells (g := g) (by rw [hv2]; rfl) _ _ (pair_get hf).1
    have k2 := h.cells (g := g) (by rw [hv2]; rfl) _ _ (pair_get hf).2
    rw [Addr.add_lit, Nat.zero_add] at k1 k2
    rw [hv] at hv2
    injection hv2 with e1 _ _
    exact ⟨g, 0, e1, by rw [Nat.zero_add]; exact k1, by rw [Nat.zero_add]; exact k2⟩

/-- '==' of pairs -/
theorem eqin_pair (p q : List UInt8 × List UInt8) (w : World) : (Op.equalIn 10000 58 (.agg #[.string ⟨p.1.toArray⟩, .string ⟨p.2.toArray⟩]) (.agg #[.string ⟨q.1.toArray⟩, .string ⟨q.2.toArray⟩])).run Tryz.prog w = .ok (decide (p = q)) w := by
  have hS : Tryz.prog.underlying 58 = some (.struct (Tryz.prog.fieldsOf 58)) := by kernel_rfl
  have hp : Tryz.prog.stoodInHeld 58 = false := by kernel_rfl
  rw [show (10000 : Nat) = 9999 + 1 from rfl, run_equalIn_agg w 9999 58 _ _ hS hp]
  simp only [Program.fieldsOf, Tryz.underlying58]
  obtain ⟨a, b⟩ := p
  obtain ⟨a', b'⟩ := q
  by_cases h1 : a = a'
  · subst h1
    by_cases h2 : b = b'
    · subst h2
      go_simp
    · have e : ((⟨b.toArray⟩ : ByteArray) == ⟨b'.toArray⟩) = false := by rw [str_beq]; simp [h2]
      go_simp
  · have e : ((⟨a.toArray⟩ : ByteArray) == ⟨a'.toArray⟩) = false := by rw [str_beq]; simp [h1]
    go_simp
theorem neq_pair (p q : List UInt8 × List UInt8) (w : World) : (binOp .neq 58 (.agg #[.string ⟨p.1.toArray⟩, .string ⟨p.2.toArray⟩]) (.agg #[.string ⟨q.1.toArray⟩, .string ⟨q.2.toArray⟩])).run Tryz.prog w = .ok (.bool (!decide (p = q))) w := by
  rw [run_neq_struct, eqin_pair]; rfl

abbrev reqAgg (q : ReqV) (v : Value) : Value := .agg #[.string ⟨q.meth.toArray⟩, .string ⟨q.target.toArray⟩, .int .i64 q.minor, v, .string ⟨q.body.toArray⟩, .bool q.close]

end Go.Proofs.YtdilmefeofdkmaaGreatDoor
