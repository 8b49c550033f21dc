/-
  AN ELEMENT that is read as data is a tree, and a small one if the data is small; what the rows of this chapter share. (Printed by wip/gen/xmopen.py.)
-/
import Derived.Test.YtgmgghbocidibaaGreatDoorOpenTree
import Derived.Test.YtgmgghbocidibaaGreatDoorSm43
import Derived.Test.YtgmgghbocidibaaGreatDoorXmWrP
import Derived.Test.YtgmgghbocidibaaGreatDoorXmWith
import Derived.Lib.LaidU8
namespace Go.Proofs.YtgmgghbocidibaaGreatDoor
open Go.RowKit Go.Lib

theorem utf8First_is : Go.Pinned.utf8First = Lib.firstData := by kernel_rfl
theorem tabs_of_laid {W : World} (h : laidMetH Tryz.prog laidAll W) : Lib.Utf8Tabs 1 2 W := by
  have h0 : laidMet Tryz.prog laidAll W := h
  have hf : Lib.VarReads Tryz.prog W "unicode/utf8.first" Lib.firstData := utf8First_is ▸ Lib.laidMet.reads h0 (by simp [laidAll, Rows.laid_unicode_utf8_first])
  have ha : Lib.VarReads Tryz.prog W "unicode/utf8.acceptRanges" Lib.acceptData := Lib.laidMet.reads h0 (.tail _ (.tail _ (.tail _ (.head _))))
  exact utf8Tabs_of_reads Tryz.lays260 ⟨by kernel_rfl, by kernel_rfl, by kernel_rfl, by kernel_rfl, by kernel_rfl, by kernel_rfl, by kernel_rfl⟩ hf ha
theorem globX_of_laid {W : World} (h : laidMetH Tryz.prog laidAll W) : GlobX W := by
  have hg := glob_of_laid h
  have h1 : 7 < W.heap.size := World.block_lt_of_cell? W _ hg.tz
  exact ⟨hg, h1, tabs_of_laid h⟩
theorem bulk_elem {H : Type} {n tx : Bs} {d : DataW H} (h : Rows.uptoBulk (.agg [.lit (.string n), .lit (.string tx), d]) ≤ 4000000) : n.length ≤ 4000000 ∧ tx.length ≤ 4000000 ∧ Rows.uptoBulk d ≤ 4000000 := by
  simp only [Rows.uptoBulk, Rows.uptoBulkAll, bulks.string_eq] at h
  omega

set_option maxHeartbeats 400000 in
set_option maxRecDepth 100000 in
theorem open_treeX {H : Type} {enc : TypeId × Value → H} {W : World} {held : Bool} : ∀ (fuel : Nat) (cs : List Value) (x : DataW H × List MemPlace), DataW.trod enc Tryz.prog W 0 (fun _ => true) held fuel 24 cs = some x →
    (∀ n ∈ DataW.weights Tryz.prog 24 x.1, n ≤ reachBytes) → ∃ t a c, cs = [.string t.name, .string t.text, .slice a t.kids.length c] ∧ TreeIn W t (.string t.name) (.string t.text) (.slice a t.kids.length c) ∧ (Rows.uptoBulk x.1 ≤ 4000000 → SmT t)
  | 0, _, _, h, _ => by simp [DataW.trod] at h
  | fuel + 1, cs, x, h, hr => by
    obtain ⟨hl, xs, hxs, rfl⟩ := open_struct Tryz.underlying24 h
    rw [cellsE] at hl
    match cs, hl with
    | [c0, c1, c2], _ =>
      simp only [List.mapM_cons, List.mapM_nil, Option.bind_eq_bind, Option.bind_eq_some_iff, Option.pure_def, Option.some.injEq, cellsS, cellsKs] at hxs
      obtain ⟨y0, e0, _, ⟨y1, e1, _, ⟨y2, e2, _, rfl, rfl⟩, rfl⟩, rfl⟩ := hxs
      simp only [List.drop_zero, List.drop_succ_cons, List.take_succ_cons, List.take_zero] at e0 e1 e2
      obtain ⟨n, h0, rfl⟩ := open_str Tryz.underlying9 e0
      obtain ⟨tx, h1, rfl⟩ := open_str Tryz.underlying9 e1
      simp only [List.cons.injEq, and_true] at h0 h1
      subst h0 h1
      simp only [List.map_cons, List.map_nil] at hr
      have hw : DataW.weights Tryz.prog 24 (.agg [.lit (.string n.data.toList), .lit (.string tx.data.toList), y2.1] : DataW H) = [n.data.toList.length] ++ ([tx.data.toList.length] ++ (DataW.weights Tryz.prog 22 y2.1 ++ [])) := by
        rw [DataW.weights, Tryz.underlying24]; rfl
      rw [hw] at hr
      have hn : n.size ≤ maxRead := by have := hr n.data.toList.length (by simp); unfold reachBytes at this; unfold maxRead; simpa using this
      have ht : tx.size ≤ maxRead := by have := hr tx.data.toList.length (by simp); unfold reachBytes at this; unfold maxRead; simpa using this
      cases fuel with
      | zero => simp [DataW.trod] at e2
      | succ fuel =>
        rcases open_sl Tryz.underlying22 e2 with ⟨h2, _⟩ | ⟨a, len, cap, elems, rest, h2, hlc, hx, hel, hone⟩
        · simp only [List.cons.injEq, and_true] at h2
          subst h2
          refine ⟨.node n tx [], none, 0, rfl, ?_⟩
          unfold TreeIn
          exact ⟨⟨rfl, rfl, hn, ht, by simp, none, 0, rfl, by unfold KidsIn; trivial⟩, fun hb => by obtain ⟨h1, h2, _⟩ := bulk_elem hb; unfold SmT; exact ⟨h1, h2, by unfold SmKs; trivial⟩⟩
        · simp only [List.cons.injEq, and_true] at h2
          subst h2
          have hw2 : DataW.weights Tryz.prog 22 (.slice (elems.map (·.1)) (rest.map (·.1)) : DataW H) = ((elems.map (·.1)).length + (rest.map (·.1)).length) * Tryz.prog.bytesOf 24 :: (DataW.weightsAll Tryz.prog 24 (elems.map (·.1)) ++ DataW.weightsAll Tryz.prog 24 (rest.map (·.1))) := by
            rw [DataW.weights, Tryz.underlying22]
          rw [hx, hw2, bytesE] at hr
          have hlen : len ≤ 2513169434843 := by
            have := hr (((elems.map (·.1)).length + (rest.map (·.1)).length) * 56) (by simp)
            simp only [List.length_map, hel] at this
            unfold reachBytes at this
            omega
          have ha0 : 0 < len → ∃ b off, a = ⟨b, off, none⟩ := fun h0 => by
            obtain ⟨y, cs', hy, hc, ht'⟩ := hone 0 h0
            rw [cellsE] at hc
            obtain ⟨k, a', c', rfl, hk, hkS⟩ := open_treeX fuel cs' y ht' (fun m hm => hr m (by
              have hmem : m ∈ DataW.weightsAll Tryz.prog 24 (elems.map (·.1)) := weightsAll_mem _ _ y.1 (List.mem_map.2 ⟨y, List.mem_of_getElem? hy, rfl⟩) m hm
              simp only [List.mem_append, List.mem_cons]
              exact .inr (.inr (.inl (.inr (.inl hmem))))))
            obtain ⟨b, off, ha, _⟩ := cells_three hc
            exact ⟨b, off, by simpa [Addr.add] using ha⟩
          have hkid : ∀ i, i < len → ∃ k : Tree, ∃ b off x y z, some a = some (⟨b, off, none⟩ : Addr) ∧ W.cell? ⟨b, off + i * 3, none⟩ = some x ∧ W.cell? ⟨b, off + i * 3 + 1, none⟩ = some y ∧ W.cell? ⟨b, off + i * 3 + 2, none⟩ = some z ∧ TreeIn W k x y z ∧ (Rows.uptoBulk (.slice (elems.map (·.1)) (rest.map (·.1)) : DataW H) ≤ 4000000 → SmT k) := fun i hi => by
            obtain ⟨y, cs', hy, hc, ht'⟩ := hone i hi
            rw [cellsE] at hc
            obtain ⟨k, a', c', rfl, hk, hkS⟩ := open_treeX fuel cs' y ht' (fun m hm => hr m (by
              have hmem : m ∈ DataW.weightsAll Tryz.prog 24 (elems.map (·.1)) := weightsAll_mem _ _ y.1 (List.mem_map.2 ⟨y, List.mem_of_getElem? hy, rfl⟩) m hm
              simp only [List.mem_append, List.mem_cons]
              exact .inr (.inr (.inl (.inr (.inl hmem))))))
            obtain ⟨b, off, ha, q0, q1, q2⟩ := cells_three hc
            obtain ⟨b0, off0, rfl⟩ := ha0 (by omega)
            rw [Addr.add_lit, Addr.mk.injEq] at ha
            obtain ⟨rfl, rfl, _⟩ := ha
            exact ⟨k, _, off0, _, _, _, rfl, q0, q1, q2, hk, fun hb => hkS (by
              have h1 := bulks.part_le (List.mem_map.2 ⟨y, List.mem_of_getElem? hy, rfl⟩ : y.1 ∈ elems.map (·.1))
              have h2 := bulks.slice_elems (elems.map (·.1)) (rest.map (·.1))
              omega)⟩
          obtain ⟨ks, hkl, hks⟩ := choose_list _ len hkid
          refine ⟨.node n tx ks, some a, cap, by simp only [Tree.name, Tree.text, Tree.kids, hkl], ?_⟩
          unfold TreeIn
          simp only [Tree.kids, hkl]
          refine ⟨⟨rfl, rfl, hn, ht, by omega, some a, cap, rfl, KidsIn.of_get ks 0 (fun j k hj => ?_)⟩, fun hb => ?_⟩
          · obtain ⟨b, off, x, y, z, h3, h4, h5, h6, h7, _⟩ := hks j k hj
            rw [Nat.zero_add]
            exact ⟨b, off, x, y, z, h3, h4, h5, h6, h7⟩
          · obtain ⟨h1, h2, h3⟩ := bulk_elem hb
            unfold SmT
            refine ⟨h1, h2, smKs_of fun k hk => ?_⟩
            obtain ⟨j, hj⟩ := List.getElem?_of_mem hk
            obtain ⟨b, off, x, y, z, _, _, _, _, _, h4⟩ := hks j k hj
            have h3 : Rows.uptoBulk y2.1 ≤ 4000000 := h3
            rw [hx] at h3
            exact h4 h3

end Go.Proofs.YtgmgghbocidibaaGreatDoor
