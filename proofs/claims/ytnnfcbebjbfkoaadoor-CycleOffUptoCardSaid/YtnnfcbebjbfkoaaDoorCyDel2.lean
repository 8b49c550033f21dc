/-
  slices.DeleteFunc at rules: the walk.
-/
import Derived.Test.YtnnfcbebjbfkoaaDoorCyDel
namespace Go.Proofs.YtnnfcbebjbfkoaaDoor
open Go.RowKit

theorem zero_rule (w : World) : (zeroValue 34).run Tryd.prog w = .ok (.agg #[.string ⟨#[]⟩, .string ⟨#[]⟩, .bool false, .int .i64 0, .int .i64 0, .int .i64 0]) w := Tryd.zeroValue34 w

theorem zeroCells_one (z : Array Value) (n : Nat) (hz : 0 < z.size) (h : ∀ u ∈ z.toList, u.oneCell' = true) : ∀ v ∈ (Builtin.zeroCells z n).toList, v.oneCell' = true := by
  intro v hv
  simp only [Builtin.zeroCells, Array.toList_map, List.mem_map] at hv
  obtain ⟨i, _, rfl⟩ := hv
  have hlt : i % z.size < z.size := Nat.mod_lt _ hz
  rw [getElem!_pos z _ hlt]
  exact h _ (by simp)

/-- behind the clearing of a slice's tail: the cells ahead of it are as they were, the row is still one, and nothing else has turned -/
theorem clear_tail (w : World) (g i n c cap : Nat) (cur : Array Value) (h : w.heap[g]? = some (.cells cur 34 (0, 0))) (hs : cur.size = cap * 6) (hin : i + n ≤ cap) (hn : 0 < n) :
    ∃ cur', (Builtin.clear_ #[26] 0 #[.slice (some ⟨g, i * 6, none⟩) n c]).run Tryd.prog w = .ok (.tuple #[]) (w.setRow g cur') ∧ cur'.size = cap * 6 ∧ ∀ x, x < i * 6 → cur'[x]? = cur[x]? := by
  have hzl : (Builtin.zeroCells (Value.agg #[.string ⟨#[]⟩, .string ⟨#[]⟩, .bool false, .int .i64 0, .int .i64 0, .int .i64 0]).cells n).toList.length = n * 6 := by
    rw [Array.length_toList, size_zeroCells]; rfl
  have h1 := zeroCells_one (Value.agg #[.string ⟨#[]⟩, .string ⟨#[]⟩, .bool false, .int .i64 0, .int .i64 0, .int .i64 0]).cells n (by simp [Value.cells]) (by simp [Value.cells, Value.oneCell'])
  obtain ⟨m, rfl⟩ : ∃ m, n = m + 1 := ⟨n - 1, by omega⟩
  have hrun : (Builtin.clear_ #[26] 0 #[.slice (some ⟨g, i * 6, none⟩) (m + 1) c]).run Tryd.prog w = ((storeCells ⟨g, i * 6, none⟩ (Builtin.zeroCells (Value.agg #[.string ⟨#[]⟩, .string ⟨#[]⟩, .bool false, .int .i64 0, .int .i64 0, .int .i64 0]).cells (m + 1)).toList).run Tryd.prog w).andThen fun _ w' => .ok (.tuple #[]) w' := by
    simp [Builtin.clear_, run_underlying Tryd.underlying26]
  revert hzl h1 hrun
  generalize (Builtin.zeroCells (Value.agg #[.string ⟨#[]⟩, .string ⟨#[]⟩, .bool false, .int .i64 0, .int .i64 0, .int .i64 0]).cells (m + 1)).toList = Z
  intro hzl h1 hrun
  have hfit := Nat.mul_le_mul_right 6 hin
  have hst := run_storeCells_at (P := Tryd.prog) g (i * 6) 34 Z 0 cur w h (by rw [hzl, hs]; omega) h1
  simp only [Nat.add_zero, hzl] at hst
  rw [hst] at hrun
  refine ⟨_, hrun, ?_, fun x hx => ?_⟩
  · simp only [List.size_toArray, List.length_append, List.length_take, List.length_drop, Array.length_toList, hzl, hs]
    omega
  · simp only [List.getElem?_toArray, List.append_assoc]
    rw [List.getElem?_append_left (by simp [hs]; omega), List.getElem?_take, if_pos hx, Array.getElem?_toList]

theorem old6 (cu : Array Value) (cap i : Nat) (h : cu.size = cap * 6) (hi : i < cap) : ∃ o0 o1 o2 o3 o4 o5, cu[i * 6]? = some o0 ∧ cu[i * 6 + 1]? = some o1 ∧ cu[i * 6 + 2]? = some o2 ∧ cu[i * 6 + 3]? = some o3 ∧ cu[i * 6 + 4]? = some o4 ∧ cu[i * 6 + 5]? = some o5 := by
  have := Nat.mul_le_mul_right 6 (show i + 1 ≤ cap by omega)
  exact ⟨_, _, _, _, _, _, Array.getElem?_eq_getElem (by omega), Array.getElem?_eq_getElem (by omega), Array.getElem?_eq_getElem (by omega), Array.getElem?_eq_getElem (by omega), Array.getElem?_eq_getElem (by omega), Array.getElem?_eq_getElem (by omega)⟩

theorem set6_heap {w : World} {g x : Nat} {cur : Array Value} {t : TypeId} (r : RuleV) (h : w.heap[g]? = some (.cells cur t (0, 0))) :
    ((((((w.setCell ⟨g, x, none⟩ (.string r.id)).setCell ⟨g, x + 1, none⟩ (.string r.pre)).setCell ⟨g, x + 2, none⟩ (.bool r.on)).setCell ⟨g, x + 3, none⟩ (.int .i64 r.days)).setCell ⟨g, x + 4, none⟩ (.int .i64 r.nonc)).setCell ⟨g, x + 5, none⟩ (.int .i64 r.abort)).heap[g]? = some (.cells (set6 cur x r) t (0, 0)) :=
  heap_set (heap_set (heap_set (heap_set (heap_set (heap_set h _) _) _) _) _) _

theorem DelInv.keep' {zs : List RuleV} {p : RuleV → Bool} {cap j i : Nat} {cur : Array Value} {u : RuleV} (h : DelInv zs p cap j i cur) (hu : zs[j]? = some u) (hc : zs.length ≤ cap) (hp : p u = true) :
    DelInv zs p cap (j + 1) (i + 1) (set6 cur (i * 6) u) := by
  obtain ⟨hj, rfl⟩ := List.getElem?_eq_some_iff.1 hu
  exact h.keep hj hc hp
theorem DelInv.drop' {zs : List RuleV} {p : RuleV → Bool} {cap j i : Nat} {cur : Array Value} {u : RuleV} (h : DelInv zs p cap j i cur) (hu : zs[j]? = some u) (hp : p u = false) : DelInv zs p cap (j + 1) i cur := by
  obtain ⟨hj, rfl⟩ := List.getElem?_eq_some_iff.1 hu
  exact h.drop hj hp

set_option maxHeartbeats 1000000 in
set_option maxRecDepth 100000 in
theorem del_walk (q : RuleV → Bool) (zs : List RuleV) (B g cap kb : Nat) (cur : Array Value) (w : World) (hz : zs.length ≤ cap) (hcap : cap ≤ 9223372036854775807) (hB : B ≤ g)
    (hg : w.heap[g]? = some (.cells cur 34 (0, 0))) (hs : cur.size = cap * 6) (hr : ∀ a r, zs[a]? = some r → HasRule cur (a * 6) r)
    (hp : ∀ W r, Below B w W → Calls Tryd.prog 25 #[r.val, .pointer (some ⟨kb, 0, none⟩)] W fun e W' => e = .returned (.bool (!q r)) ∧ Below W.heap.size W W') :
    Calls Tryd.prog 23 #[.slice (some ⟨g, 0, none⟩) zs.length cap, .func (.func 25) #[] #[.pointer (some ⟨kb, 0, none⟩)]] w
      fun e w' => e = .returned (.slice (some ⟨g, 0, none⟩) (zs.filter q).length cap) ∧ ∃ cur', w'.heap[g]? = some (.cells cur' 34 (0, 0)) ∧ cur'.size = cap * 6 ∧ (∀ a r, (zs.filter q)[a]? = some r → HasRule cur' (a * 6) r) ∧ Below B w w' := by
  have hgl : g < w.heap.size := (Array.getElem?_eq_some_iff.1 hg).1
  obtain ⟨n, hn⟩ : ∃ n, n = zs.length := ⟨_, rfl⟩
  have hIF := Tryd.slices_IndexFunc_f41 6 isAgg_rule sizeOf_rule RuleV.cells (fun _ => rfl) (fun r => !q r) 25 #[.pointer (some ⟨kb, 0, none⟩)] (fun _ _ => by kernel_rfl) g 0 zs.length cap zs w
    (fun W x hb => (hp W x (hb.mono (by omega))).mono fun _ _ ⟨he, hb'⟩ => ⟨he, hb.trans (hb'.mono hb.size)⟩) (Nat.le_refl _) (by omega) hgl
    (fun j hj i v hv => by
      rw [show (⟨g, 0 + j * 6 + i, none⟩ : Addr) = ⟨g, j * 6 + i, none⟩ from by rw [Nat.zero_add], cell_of_heap hg]
      have hi : i < 6 := by
        have := (List.getElem?_eq_some_iff.1 hv).1
        simpa [RuleV.cells] using this
      rw [hr j zs[j]! (by rw [getElem!_pos zs j hj, List.getElem?_eq_getElem hj]) i hi, hv])
  rw [show zs.take zs.length = zs from List.take_of_length_le (Nat.le_refl _)] at hIF
  rcases idx_cases q zs 0 with ⟨e1, hall⟩ | ⟨k0, hk0, e1, ha, y, hy, hq⟩
  · have e2 : Lib.idxBy (fun _ y => !q y) zs default = -1 := e1
    rw [e2] at hIF
    have e3 : zs.filter q = zs := List.filter_eq_self.2 hall
    have HR := Lib.hid hr
    have HIF := Lib.hid hIF
    have HG := Lib.hid hg
    clear hr hp hall e1 e2 hIF hg
    rw [e3]
    clear e3
    generalize hn : zs.length = n at *
    have HN := Lib.hid hn
    clear hn
    go_enter Tryd.func23, Tryd.ntmps23
    go_wp2_with (go_at_call 41; refine (HIF.out).mono ?_; rintro e w1 ⟨rfl, hb⟩)
    go_ret
    exact ⟨rfl, cur, by rw [hb.block g hgl]; exact HG.out, hs, HR.out, hb.mono (by omega)⟩
  · have e2 : Lib.idxBy (fun _ y => !q y) zs default = ((k0 : Nat) : Int) := by
      have := e1
      rw [Nat.zero_add] at this
      exact this
    rw [e2] at hIF
    have HI0 := Lib.hid (DelInv.start hs hr hk0 ha y hy hq)
    have HR := Lib.hid hr
    have HIF := Lib.hid hIF
    have HG := Lib.hid hg
    have HP := Lib.hid hp
    clear hr hp ha hy hq e1 e2 hIF hg
    obtain ⟨n, hn⟩ : ∃ n, Hid (zs.length = n) := ⟨_, rfl⟩
    rw [hn.out] at hk0 hz HIF ⊢
    have hne1 : ((k0 : Int) == -1) = false := beq_eq_false_iff_ne.2 (by omega)
    go_enter Tryd.func23, Tryd.ntmps23
    go_wp2_with (go_at_call 41; refine (HIF.out).mono ?_; rintro e w1 ⟨rfl, hb⟩)
    go_loopg [5, 6, 7] n (fun gg s5 s6 _ wr => ∃ (i j : Nat) (cu : Array Value), s5 = .int .i64 i ∧ s6 = .int .i64 j ∧ j ≤ n ∧ n - j ≤ gg ∧ i < j ∧ Hid (wr.heap[g]? = some (.cells cu 34 (0, 0))) ∧ Hid (DelInv zs q cap j i cu) ∧ Hid (Below B w wr))
    case atStart => exact ⟨k0, k0 + 1, cur, rfl, by go_num, by omega, by omega, by omega, by show w1.heap[g]? = _; rw [hb.block g hgl]; exact HG.out, HI0.out, hb.mono (by omega)⟩
    case round =>
      obtain ⟨i, j, cu, rfl, rfl, hjn, hgg, hij, GH, DI, BW⟩ := hrel
      by_cases hlt : j < n
      · have hltz : (j : Int) < (n : Int) := by omega
        have hgr : g < wr.heap.size := (Array.getElem?_eq_some_iff.1 GH.out).1
        have hjz : j < zs.length := by rw [hn.out]; exact hlt
        obtain ⟨u, HU⟩ : ∃ u, Hid (zs[j]? = some u) := ⟨_, List.getElem?_eq_getElem hjz⟩
        obtain ⟨f0, f1, f2, f3, f4, f5⟩ := (DI.out.high j u (Nat.le_refl _) HU.out).cells
        have e0 : wr.cell? ⟨g, j * 6, none⟩ = _ := (cell_of_heap GH.out).trans f0
        have e1 : wr.cell? ⟨g, j * 6 + 1, none⟩ = _ := (cell_of_heap GH.out).trans f1
        have e2 : wr.cell? ⟨g, j * 6 + 2, none⟩ = _ := (cell_of_heap GH.out).trans f2
        have e3 : wr.cell? ⟨g, j * 6 + 3, none⟩ = _ := (cell_of_heap GH.out).trans f3
        have e4 : wr.cell? ⟨g, j * 6 + 4, none⟩ = _ := (cell_of_heap GH.out).trans f4
        have e5 : wr.cell? ⟨g, j * 6 + 5, none⟩ = _ := (cell_of_heap GH.out).trans f5
        clear f0 f1 f2 f3 f4 f5 hjz
        go_wp2_with fail
        refine (HP.out _ u (BW.out.alloc (by omega) _)).mono ?_
        rintro e w2 ⟨rfl, hb2⟩
        have hz2 : wr.heap.size < w2.heap.size := by have := hb2.size; simp at this; omega
        have GH2 : Hid (w2.heap[g]? = some (.cells cu 34 (0, 0))) := by
          show w2.heap[g]? = _
          rw [hb2.block g (by simp; omega), Below.heap_alloc _ _ _ hgr]; exact GH.out
        have BW2 : Hid (Below B w w2) := (BW.out.alloc (by omega) _).trans (hb2.mono (by simp; omega))
        have v0 : w2.cell? ⟨wr.heap.size, 0, none⟩ = some (.string u.id) := by rw [hb2.cell (by simp)]; simp
        have v1 : w2.cell? ⟨wr.heap.size, 1, none⟩ = some (.string u.pre) := by rw [hb2.cell (by simp)]; simp
        have v2 : w2.cell? ⟨wr.heap.size, 2, none⟩ = some (.bool u.on) := by rw [hb2.cell (by simp)]; simp
        have v3 : w2.cell? ⟨wr.heap.size, 3, none⟩ = some (.int .i64 u.days) := by rw [hb2.cell (by simp)]; simp
        have v4 : w2.cell? ⟨wr.heap.size, 4, none⟩ = some (.int .i64 u.nonc) := by rw [hb2.cell (by simp)]; simp
        have v5 : w2.cell? ⟨wr.heap.size, 5, none⟩ = some (.int .i64 u.abort) := by rw [hb2.cell (by simp)]; simp
        clear e0 e1 e2 e3 e4 e5 hb2
        have hil : i < cap := by omega
        obtain ⟨o0, o1, o2, o3, o4, o5, p0, p1, p2, p3, p4, p5⟩ := old6 cu cap i DI.out.size hil
        have t0 : w2.cell? ⟨g, i * 6, none⟩ = _ := (cell_of_heap GH2.out).trans p0
        have t1 : w2.cell? ⟨g, i * 6 + 1, none⟩ = _ := (cell_of_heap GH2.out).trans p1
        have t2 : w2.cell? ⟨g, i * 6 + 2, none⟩ = _ := (cell_of_heap GH2.out).trans p2
        have t3 : w2.cell? ⟨g, i * 6 + 3, none⟩ = _ := (cell_of_heap GH2.out).trans p3
        have t4 : w2.cell? ⟨g, i * 6 + 4, none⟩ = _ := (cell_of_heap GH2.out).trans p4
        have t5 : w2.cell? ⟨g, i * 6 + 5, none⟩ = _ := (cell_of_heap GH2.out).trans p5
        have fr : ∀ x, w2.frozen? ⟨g, x, none⟩ = false := fun x => free_of_heap GH2.out
        clear p0 p1 p2 p3 p4 p5
        cases hq : q u with
        | true =>
          have HQ := Lib.hid hq
          clear hq
          go_wp2
          go_roundg (n - (j + 1))
          case measure => omega
          case rel =>
            refine ⟨i + 1, j + 1, set6 cu (i * 6) u, by go_num, by go_num, by omega, by omega, by omega, set6_heap u GH2.out, DI.out.keep' HU.out (by rw [hn.out]; exact hz) HQ.out, ?_⟩
            exact (((((BW2.out.setCell (by simp; omega) _).setCell (by simp; omega) _).setCell (by simp; omega) _).setCell (by simp; omega) _).setCell (by simp; omega) _).setCell (by simp; omega) _
        | false =>
          have HQ := Lib.hid hq
          clear hq
          go_wp2
          go_roundg (n - (j + 1))
          case measure => omega
          case rel => exact ⟨i, j + 1, cu, rfl, by go_num, by omega, by omega, by omega, GH2.out, DI.out.drop' HU.out HQ.out, BW2.out⟩
      · have hltz : ¬ (j : Int) < (n : Int) := by omega
        obtain ⟨cu', hrun, hsz, hlow⟩ := clear_tail wr g i (n - i) (cap - i) cap cu GH.out DI.out.size (by omega) (by omega)
        have HS := Lib.hid hsz
        have HL := Lib.hid hlow
        clear hsz hlow
        go_wp2
        go_ret
        obtain rfl : j = n := by omega
        have e : zs.take j = zs := List.take_of_length_le (by rw [hn.out]; exact Nat.le_refl _)
        have hl := DI.out.len
        rw [e] at hl
        refine ⟨by rw [← hl]; rfl, cu', setRow_heap _ _ _ _ _ _ GH.out, HS.out, fun a r ha c hc => ?_, BW.out.trans ⟨rfl, rfl, rfl, by simp [World.setRow], fun k hk => setRow_other _ _ _ _ (by omega)⟩⟩
        have hai : a < i := by rw [hl]; exact (List.getElem?_eq_some_iff.1 ha).1
        rw [HL.out _ (by omega)]
        exact DI.out.low a r (by rw [e]; exact ha) c hc

end Go.Proofs.YtnnfcbebjbfkoaaDoor
