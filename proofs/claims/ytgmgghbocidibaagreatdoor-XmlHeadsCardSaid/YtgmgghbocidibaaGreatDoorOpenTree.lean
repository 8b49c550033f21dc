/-
  AN ELEMENT that is read as data is a tree.
-/
import Derived.Test.YtgmgghbocidibaaGreatDoorSm41
import Derived.Test.YtgmgghbocidibaaGreatDoorSm0
namespace Go.Proofs.YtgmgghbocidibaaGreatDoor
open Go.RowKit

theorem cellsE : Tryz.prog.cellsOf 24 = 3 := by kernel_rfl
theorem cellsS : Tryz.prog.cellsOf 9 = 1 := by kernel_rfl
theorem cellsKs : Tryz.prog.cellsOf 22 = 1 := by kernel_rfl
theorem bytesE : Tryz.prog.bytesOf 24 = 56 := by kernel_rfl

theorem choose_list {α : Type} (Q : Nat → α → Prop) : ∀ len, (∀ i, i < len → ∃ k, Q i k) → ∃ ks : List α, ks.length = len ∧ ∀ (i : Nat) (k : α), ks[i]? = some k → Q i k
  | 0, _ => ⟨[], rfl, fun i k h => by cases h⟩
  | len + 1, h => by
    obtain ⟨ks, h1, h2⟩ := choose_list Q len (fun i hi => h i (by omega))
    obtain ⟨k, hk⟩ := h len (by omega)
    refine ⟨ks ++ [k], by simp [h1], fun i k' hk' => ?_⟩
    by_cases hi : i < ks.length
    · rw [List.getElem?_append_left hi] at hk'
      exact h2 i k' hk'
    · have : i = len := by have := (List.getElem?_eq_some_iff.1 hk').1; simp at this; omega
      subst this
      rw [List.getElem?_append_right (by omega), h1] at hk'
      simp at hk'
      subst hk'; exact hk

theorem KidsIn.of_get {w : World} {a : Option Addr} : ∀ (ks : List Tree) (i : Nat), (∀ (j : Nat) (k : Tree), ks[j]? = some k → ∃ b off x y z, a = some ⟨b, off, none⟩ ∧ w.cell? ⟨b, off + (i + j) * 3, none⟩ = some x ∧ w.cell? ⟨b, off + (i + j) * 3 + 1, none⟩ = some y ∧ w.cell? ⟨b, off + (i + j) * 3 + 2, none⟩ = some z ∧ TreeIn w k x y z) → KidsIn w ks a i
  | [], _, _ => by unfold KidsIn; trivial
  | k :: ks, i, h => by
    unfold KidsIn
    refine ⟨?_, KidsIn.of_get ks (i + 1) (fun j k' hk' => ?_)⟩
    · simpa using h 0 k rfl
    · have := h (j + 1) k' (by simpa using hk')
      rw [show i + (j + 1) = i + 1 + j from by omega] at this
      exact this

theorem cells_three {w : World} {a : Addr} {x y z : Value} (h : w.cells? 0 a 3 = some [x, y, z]) : ∃ b off, a = ⟨b, off, none⟩ ∧ w.cell? ⟨b, off, none⟩ = some x ∧ w.cell? ⟨b, off + 1, none⟩ = some y ∧ w.cell? ⟨b, off + 2, none⟩ = some z := by
  unfold World.cells? at h
  simp only [Nat.zero_le, if_true] at h
  obtain ⟨_, h2⟩ := mapM_get h
  obtain ⟨y0, e0, h0⟩ := h2 0 0 (by decide)
  obtain ⟨y1, e1, h1⟩ := h2 1 1 (by decide)
  obtain ⟨y2, e2, h3⟩ := h2 2 2 (by decide)
  simp at e0 e1 e2
  subst e0 e1 e2
  obtain ⟨b, off, s⟩ := a
  cases s with
  | none => exact ⟨b, off, rfl, by simpa [Addr.add] using h0, by simpa [Addr.add] using h1, by simpa [Addr.add] using h3⟩
  | some s =>
    exfalso
    unfold World.cell? Addr.add at h0
    split at h0
    · simp at h0
    · cases h0

theorem weightsAll_mem {H : Type} {P : Program} (e : TypeId) : ∀ (l : List (DataW H)) (d : DataW H), d ∈ l → ∀ m ∈ DataW.weights P e d, m ∈ DataW.weightsAll P e l
  | [], d, h, _, _ => by cases h
  | d' :: l, d, h, m, hm => by
    rw [DataW.weightsAll]
    rcases List.mem_cons.1 h with rfl | h
    · exact List.mem_append_left _ hm
    · exact List.mem_append_right _ (weightsAll_mem e l d h m hm)

set_option maxHeartbeats 400000 in
set_option maxRecDepth 100000 in
theorem open_tree {H : Type} {enc : TypeId × Value → H} {W : World} {held : Bool} : ∀ (fuel : Nat) (cs : List Value) (x : DataW H × List MemPlace), DataW.trod enc Tryz.prog W 0 (fun _ => true) held fuel 24 cs = some x →
    (∀ n ∈ DataW.weights Tryz.prog 24 x.1, n ≤ reachBytes) → ∃ t a c, cs = [.string t.name, .string t.text, .slice a t.kids.length c] ∧ TreeIn W t (.string t.name) (.string t.text) (.slice a t.kids.length c)
  | 0, _, _, h, _ => by simp [DataW.trod] at h
  | fuel + 1, cs, x, h, hr => by
    obtain ⟨hl, xs, hxs, rfl⟩ := open_struct Tryz.underlying24 h
    rw [cellsE] at hl
    match cs, hl with
    | [c0, c1, c2], _ =>
      simp only [List.mapM_cons, List.mapM_nil, Option.bind_eq_bind, Option.bind_eq_some_iff, Option.pure_def, Option.some.injEq, cellsS, cellsKs] at hxs
      obtain ⟨y0, e0, _, ⟨y1, e1, _, ⟨y2, e2, _, rfl, rfl⟩, rfl⟩, rfl⟩ := hxs
      simp only [List.drop_zero, List.drop_succ_cons, List.take_succ_cons, List.take_zero] at e0 e1 e2
      obtain ⟨n, h0, rfl⟩ := open_str Tryz.underlying9 e0
      obtain ⟨tx, h1, rfl⟩ := open_str Tryz.underlying9 e1
      simp only [List.cons.injEq, and_true] at h0 h1
      subst h0 h1
      simp only [List.map_cons, List.map_nil] at hr
      have hw : DataW.weights Tryz.prog 24 (.agg [.lit (.string n.data.toList), .lit (.string tx.data.toList), y2.1] : DataW H) = [n.data.toList.length] ++ ([tx.data.toList.length] ++ (DataW.weights Tryz.prog 22 y2.1 ++ [])) := by
        rw [DataW.weights, Tryz.underlying24]; rfl
      rw [hw] at hr
      have hn : n.size ≤ maxRead := by have := hr n.data.toList.length (by simp); unfold reachBytes at this; unfold maxRead; simpa using this
      have ht : tx.size ≤ maxRead := by have := hr tx.data.toList.length (by simp); unfold reachBytes at this; unfold maxRead; simpa using this
      cases fuel with
      | zero => simp [DataW.trod] at e2
      | succ fuel =>
        rcases open_sl Tryz.underlying22 e2 with ⟨h2, _⟩ | ⟨a, len, cap, elems, rest, h2, hlc, hx, hel, hone⟩
        · simp only [List.cons.injEq, and_true] at h2
          subst h2
          refine ⟨.node n tx [], none, 0, rfl, ?_⟩
          unfold TreeIn
          exact ⟨rfl, rfl, hn, ht, by simp, none, 0, rfl, by unfold KidsIn; trivial⟩
        · simp only [List.cons.injEq, and_true] at h2
          subst h2
          have hw2 : DataW.weights Tryz.prog 22 (.slice (elems.map (·.1)) (rest.map (·.1)) : DataW H) = ((elems.map (·.1)).length + (rest.map (·.1)).length) * Tryz.prog.bytesOf 24 :: (DataW.weightsAll Tryz.prog 24 (elems.map (·.1)) ++ DataW.weightsAll Tryz.prog 24 (rest.map (·.1))) := by
            rw [DataW.weights, Tryz.underlying22]
          rw [hx, hw2, bytesE] at hr
          have hlen : len ≤ 2513169434843 := by
            have := hr (((elems.map (·.1)).length + (rest.map (·.1)).length) * 56) (by simp)
            simp only [List.length_map, hel] at this
            unfold reachBytes at this
            omega
          have ha0 : 0 < len → ∃ b off, a = ⟨b, off, none⟩ := fun h0 => by
            obtain ⟨y, cs', hy, hc, ht'⟩ := hone 0 h0
            rw [cellsE] at hc
            obtain ⟨k, a', c', rfl, hk⟩ := open_tree fuel cs' y ht' (fun m hm => hr m (by
              have hmem : m ∈ DataW.weightsAll Tryz.prog 24 (elems.map (·.1)) := weightsAll_mem _ _ y.1 (List.mem_map.2 ⟨y, List.mem_of_getElem? hy, rfl⟩) m hm
              simp only [List.mem_append, List.mem_cons]
              exact .inr (.inr (.inl (.inr (.inl hmem))))))
            obtain ⟨b, off, ha, _⟩ := cells_three hc
            exact ⟨b, off, by simpa [Addr.add] using ha⟩
          have hkid : ∀ i, i < len → ∃ k : Tree, ∃ b off x y z, some a = some (⟨b, off, none⟩ : Addr) ∧ W.cell? ⟨b, off + i * 3, none⟩ = some x ∧ W.cell? ⟨b, off + i * 3 + 1, none⟩ = some y ∧ W.cell? ⟨b, off + i * 3 + 2, none⟩ = some z ∧ TreeIn W k x y z := fun i hi => by
            obtain ⟨y, cs', hy, hc, ht'⟩ := hone i hi
            rw [cellsE] at hc
            obtain ⟨k, a', c', rfl, hk⟩ := open_tree fuel cs' y ht' (fun m hm => hr m (by
              have hmem : m ∈ DataW.weightsAll Tryz.prog 24 (elems.map (·.1)) := weightsAll_mem _ _ y.1 (List.mem_map.2 ⟨y, List.mem_of_getElem? hy, rfl⟩) m hm
              simp only [List.mem_append, List.mem_cons]
              exact .inr (.inr (.inl (.inr (.inl hmem))))))
            obtain ⟨b, off, ha, q0, q1, q2⟩ := cells_three hc
            obtain ⟨b0, off0, rfl⟩ := ha0 (by omega)
            rw [Addr.add_lit, Addr.mk.injEq] at ha
            obtain ⟨rfl, rfl, _⟩ := ha
            exact ⟨k, _, off0, _, _, _, rfl, q0, q1, q2, hk⟩
          obtain ⟨ks, hkl, hks⟩ := choose_list _ len hkid
          refine ⟨.node n tx ks, some a, cap, by simp only [Tree.name, Tree.text, Tree.kids, hkl], ?_⟩
          unfold TreeIn
          simp only [Tree.kids, hkl]
          refine ⟨rfl, rfl, hn, ht, by omega, some a, cap, rfl, KidsIn.of_get ks 0 (fun j k hj => ?_)⟩
          obtain ⟨b, off, x, y, z, h3⟩ := hks j k hj
          rw [Nat.zero_add]
          exact ⟨b, off, x, y, z, h3⟩

end Go.Proofs.YtgmgghbocidibaaGreatDoor
