/-
  strings: NewReplacer, build, buildOnce.
-/
import Derived.Test.YtgmgghbocidibaaGreatDoorXmBsr
namespace Go.Proofs.YtgmgghbocidibaaGreatDoor
open Go.RowKit Go.Lib Go.PlainAid

/-- a replacer's cells -/
def rpC (d st sm : Int) (rv ov : Value) : Array Value := #[.int .u32 d, .int .i32 st, .int .u32 sm, rv, ov]
/-- what is replaced by what -/
def onL : List Bs := [[38], [38, 97, 109, 112, 59], [60], [38, 108, 116, 59], [62], [38, 103, 116, 59], [34], [38, 113, 117, 111, 116, 59], [13], [38, 35, 49, 51, 59]]
def onC : List Value := onL.map fun l => .string ⟨l.toArray⟩
theorem info_str : ∃ i, Tryz.prog.info? 9 = some i ∧ i.zero = some (.string ⟨#[]⟩) ∧ i.size = 1 ∧ i.bytes = 16 :=
  info_parts (show (Tryz.prog.info? 9).map (fun i => (i.zero, i.size, i.bytes)) = some (some (.string ⟨#[]⟩), 1, 16) by kernel_rfl)

set_option maxHeartbeats 4000000 in
set_option maxRecDepth 100000 in
theorem newReplacer_any {w : World} {q c : Nat} (h : ∀ j v, onC[j]? = some v → w.cell? ⟨q, j, none⟩ = some v) :
    Calls Tryz.prog 23 #[.slice (some ⟨q, 0, none⟩) 10 c] w fun e w' => ∃ R g cp, e = .returned (.pointer (some ⟨R, 0, none⟩)) ∧ w'.heap[R]? = some (.cells (rpC 0 0 0 .nilIface (.slice (some ⟨g, 0, none⟩) 10 cp)) 90 (0, 0)) ∧ (∀ j v, onC[j]? = some v → w'.cell? ⟨g, j, none⟩ = some v) ∧ w.heap.size ≤ R ∧ w.heap.size ≤ g ∧ R ≠ g ∧ Below w.heap.size w w' := by
  obtain ⟨i0, hi0, hz0, hz1, hz2⟩ := info_str
  have H := Lib.hid h
  clear h
  go_enter Tryz.func23, Tryz.ntmps23
  go_upto_region 3 with (fail)
  go_wp2_with (at_builtin; refine wpList_append_lies _ (by rfl) _ _ 74 (by rfl) w.heap.size 9 i0 _ 1 16 Tryz.underlying74 hi0 hz0 hz1 hz2 rfl (by decide) _ 0 [] (by rfl) (World.ownsRow_nil _ _ _ _) ⟨q, 0, none⟩ 10 c onC (by rfl) (by rfl) (fun j u hj => by rw [Addr.add_lit, Nat.zero_add]; exact H.out j u hj) (by decide) (by decide) (by decide) (by decide) (Nat.le_refl _) _ rfl ?_)
  intro g cap W1 hown hgr hat hlt1
  have hb1 : Below w.heap.size w W1 := ⟨hgr.os, hgr.tape, hgr.output, hgr.size, fun k hk => hgr.block k hk (by simp [Value.ownBlock])⟩
  have hgl : w.heap.size ≤ g := (hown.lt g rfl).1
  have hc1 : ∀ j v, onC[j]? = some v → W1.cell? ⟨g, j, none⟩ = some v := fun j v hj => by
    have h1 := hown.cells (g := g) rfl j v (by simpa using hj)
    rw [Addr.add_lit, Nat.zero_add] at h1
    exact h1
  have HB1 := Lib.hid hb1
  have HC1 := Lib.hid hc1
  clear hown hgr hat hb1 hc1
  go_wp2_with fail
  go_ret
  have hb2 : Below W1.heap.size W1 (W1.alloc (.cells (rpC 0 0 0 .nilIface (.slice (some ⟨g, 0, none⟩) 10 cap)) 90)) := below_alloc (Below.refl _ _) (Nat.le_refl _) _
  exact ⟨W1.heap.size, g, cap, rfl, heap_alloc_new _ _, fun j v hj => cell_later hb2 (HC1.out j v hj), HB1.out.size, hgl, by omega, HB1.out.trans (hb2.mono HB1.out.size)⟩

/-! ### build -/
theorem onC_at {i : Nat} {l : Bs} (h : onL[i]? = some l) : onC[i]? = some (.string ⟨l.toArray⟩) := by
  unfold onC
  rw [List.getElem?_map, h]
  rfl
theorem pair_at : ∀ k : Nat, k < 5 → ∃ y, onL[2 * k]? = some [y] ∧ onL[2 * k + 1]? = some (escB y) ∧ repL[4 - k]? = some y ∧ (escB y).length ≠ 1
  | 0, _ => ⟨38, rfl, rfl, rfl, by decide⟩
  | 1, _ => ⟨60, rfl, rfl, rfl, by decide⟩
  | 2, _ => ⟨62, rfl, rfl, rfl, by decide⟩
  | 3, _ => ⟨34, rfl, rfl, rfl, by decide⟩
  | 4, _ => ⟨13, rfl, rfl, rfl, by decide⟩
  | n + 5, h => absurd h (by omega)
/-- the table's cells at the beginning -/
def bigC (v : Value) : Array Value := ((List.replicate 256 (Value.slice none 0 0)) ++ [v]).toArray
/-- an operation whose run is known -/
theorem wpList_known {P : Program} {ops : Array Oper} {rest : List Oper} {o : Oper} {a : Act} {w : World} {Q : Exit → Act → World → Prop} (hgd : o.guard = none) (op : Op) (ho : o.op = op) (v : Value) (w' : World) (hr : (execOp a.eval o).run P w = .ok (.value v) w') (h : wpList P ops Q rest (a.put o.dst v) w') : wpList P ops Q (o :: rest) a w :=
  wpList_plain hgd fun _ hK => by
    unfold Oper.wp
    rw [hr]
    exact hK _ _ h
theorem type_eqF {w : World} {k : Nat} {cs cs' : Array Value} {t t' : TypeId} {f f' : Nat × Nat} (h : w.heap[k]? = some (.cells cs t f)) (h' : w.heap[k]? = some (.cells cs' t' f')) : t = t' := by
  rw [h] at h'
  injection h' with h'
  injection h' with _ h' _
theorem cell_of_heapF {w : World} {g x : Nat} {cur : Array Value} {t : TypeId} {f : Nat × Nat} (h : w.heap[g]? = some (.cells cur t f)) : w.cell? ⟨g, x, none⟩ = cur[x]? := by
  simp [World.cell?, h]
theorem wpList_convert_bytesW {P : Program} {ops : Array Oper} {rest : List Oper} {o : Oper} {a : Act} {w : World} {Q : Exit → Act → World → Prop} (hgd : o.guard = none) (src dst : TypeId) (x : Operand) (ho : o.op = .convert src dst x)
    (e : TypeId) (hs : P.underlying src = some .string) (hd : P.underlying dst = some (.slice e)) (he : P.underlying e = some (.int .u8)) (l : Bs) (hx : a.eval x = .string ⟨l.toArray⟩)
    (h : ∀ cap W, Below w.heap.size w W → (∃ cs fr, W.heap[w.heap.size]? = some (.cells cs e fr) ∧ ∀ (j : Nat) (y : UInt8), l[j]? = some y → cs[j]? = some (Value.int .u8 y.toNat)) → wpList P ops Q rest (a.put o.dst (.slice (some ⟨w.heap.size, 0, none⟩) l.length cap)) W) : wpList P ops Q (o :: rest) a w :=
  wpList_plain hgd fun _ hK => by
    unfold Oper.wp execOp
    simp only [ho, hx, Sem.run_bind, Sem.run_pure, Result.andThen_ok, Lib.run_convert_string_bytes w src dst e ⟨l.toArray⟩ hs hd he]
    refine hK _ _ (h _ _ (below_bytesW w e _) ⟨_, _, Lib.bytesWorld_at_new w e _, fun j y hj => ?_⟩)
    have hjl := (List.getElem?_eq_some_iff.1 hj).1
    have h1 := Lib.bytesWorld_cell w e ⟨l.toArray⟩ j hjl
    rw [cell_of_heapF (Lib.bytesWorld_at_new w e ⟨l.toArray⟩)] at h1
    rw [h1]
    have h2 : l.getD j 0 = y := by simp [List.getD, hj]
    rw [← h2]
/-- the table under way -/
structure Part (W : World) (lo Rb mt mr : Nat) (cur : Array Value) : Prop where
  big : W.heap[Rb]? = some (.cells cur 150 (0, 0))
  size : cur.size = 257
  no : ∀ x : UInt8, x ∉ repL.take mt → cur[x.toNat]? = some (.slice none 0 0)
  yes : ∀ x : UInt8, x ∈ repL.take mt → ∃ (q c : Nat) (cs : Array Value) (fr : Nat × Nat), cur[x.toNat]? = some (.slice (some ⟨q, 0, none⟩) (escB x).length c) ∧ lo ≤ q ∧ W.heap[q]? = some (.cells cs 5 fr) ∧ ∀ (j : Nat) (y : UInt8), (escB x)[j]? = some y → cs[j]? = some (Value.int .u8 y.toNat)
  rep : ∃ v, cur[256]? = some v ∧ W.ownsRow lo 9 1 v mr ((repL.take mr).map fun y => .string ⟨#[y]⟩)
  lo : lo ≤ Rb
theorem Part.kept {W W' : World} {lo Rb mt mr : Nat} {cur : Array Value} (h : Part W lo Rb mt mr cur) (hb : Below W.heap.size W W') : Part W' lo Rb mt mr cur := by
  refine ⟨(hb.block _ (Array.getElem?_eq_some_iff.1 h.big).1).trans h.big, h.size, h.no, fun x hx => ?_, ?_, h.lo⟩
  · obtain ⟨q, c, cs, fr, h1, h2, h3, h4⟩ := h.yes x hx
    exact ⟨q, c, cs, fr, h1, h2, (hb.block _ (Array.getElem?_eq_some_iff.1 h3).1).trans h3, h4⟩
  · obtain ⟨v, h1, h2⟩ := h.rep
    exact ⟨v, h1, own_later' h2 hb⟩
theorem mem_take_succ {m : Nat} {y : UInt8} (hy : repL[m]? = some y) {x : UInt8} : x ∈ repL.take (m + 1) ↔ x ∈ repL.take m ∨ x = y := by
  rw [List.take_add_one, hy]
  simp
theorem rep_new : ∀ {m : Nat} {y : UInt8}, repL[m]? = some y → y ∉ repL.take m
  | 0, _, h => by injection h with h; subst h; decide
  | 1, _, h => by injection h with h; subst h; decide
  | 2, _, h => by injection h with h; subst h; decide
  | 3, _, h => by injection h with h; subst h; decide
  | 4, _, h => by injection h with h; subst h; decide
  | n + 5, _, h => by simp [repL] at h
theorem partSet_one {old : Array Value} {o : Nat} {v : Value} (h : o < old.size) (k : Nat) : (partSet old o [v])[k]? = if k = o then some v else old[k]? := by
  by_cases hk : k = o
  · subst hk
    rw [if_pos rfl]
    unfold partSet
    have hl : (old.toList.take k).length = k := by rw [List.length_take, Array.length_toList]; omega
    rw [List.getElem?_toArray, List.append_assoc, List.getElem?_append_right (by omega), hl, Nat.sub_self]
    rfl
  · rw [if_neg hk]
    rcases Nat.lt_or_ge k o with hlt | hge
    · unfold partSet
      have hl : (old.toList.take o).length = o := by rw [List.length_take, Array.length_toList]; omega
      rw [List.getElem?_toArray, List.append_assoc, List.getElem?_append_left (by omega), List.getElem?_take, if_pos hlt, Array.getElem?_toList]
    · exact partSet_past (by simp only [List.length_cons, List.length_nil]; omega) (by simp only [List.length_cons, List.length_nil]; omega)
/-- one more that is looked for -/
theorem Part.app {W W1 : World} {lo Rb m g cap : Nat} {cur : Array Value} {y : UInt8} {v : Value} (h : Part W lo Rb m m cur) (hy : repL[m]? = some y) (hv : cur[256]? = some v)
    (hown : W1.ownsRow lo 9 1 (.slice (some ⟨g, 0, none⟩) (m + 1) cap) (m + 1) (((repL.take m).map fun y => .string ⟨#[y]⟩) ++ [.string ⟨#[y]⟩])) (hgr : W.grownBy W1 v.ownBlock) :
    Part (W1.setRow Rb (partSet cur 256 [.slice (some ⟨g, 0, none⟩) (m + 1) cap])) lo Rb m (m + 1) (partSet cur 256 [.slice (some ⟨g, 0, none⟩) (m + 1) cap]) := by
  obtain ⟨v', hv', hr⟩ := h.rep
  obtain rfl : v' = v := by rw [hv] at hv'; injection hv' with hv'; exact hv'.symm
  have hsz : 256 < cur.size := by rw [h.size]; omega
  have hbig : W1.heap[Rb]? = some (.cells cur 150 (0, 0)) := (hgr.block Rb (Array.getElem?_eq_some_iff.1 h.big).1 (fun e => by
    obtain ⟨cs, he⟩ := own_type hr e.symm
    exact absurd (type_eq h.big he) (by decide))).trans h.big
  have hgR : g ≠ Rb := fun e => by
    obtain ⟨cs, he⟩ := own_type (k := g) hown rfl
    rw [e] at he
    exact absurd (type_eq hbig he) (by decide)
  refine ⟨setRow_heap _ _ _ _ _ _ hbig, by rw [partSet_size (by simp only [List.length_cons, List.length_nil]; omega)]; exact h.size, fun x hx => ?_, fun x hx => ?_, ⟨_, by rw [partSet_one hsz, if_pos rfl], ?_⟩, h.lo⟩
  · rw [partSet_one hsz, if_neg (by have := x.toNat_lt; omega)]
    exact h.no x hx
  · obtain ⟨q, c, cs, fr, h1, h2, h3, h4⟩ := h.yes x hx
    have hqR : q ≠ Rb := fun e => by rw [e] at h3; exact absurd (type_eqF h.big h3) (by decide)
    refine ⟨q, c, cs, fr, by rw [partSet_one hsz, if_neg (by have := x.toNat_lt; omega)]; exact h1, h2, ?_, h4⟩
    rw [setRow_other _ _ _ _ hqR, hgr.block q (Array.getElem?_eq_some_iff.1 h3).1 (fun e => by
      obtain ⟨cs', he⟩ := own_type hr e.symm
      exact absurd (type_eqF h3 he) (by decide))]
    exact h3
  · have hx : (repL.take (m + 1)).map (fun y => Value.string ⟨#[y]⟩) = ((repL.take m).map fun y => .string ⟨#[y]⟩) ++ [.string ⟨#[y]⟩] := by
      rw [List.take_add_one, hy, List.map_append]
      rfl
    rw [hx]
    exact own_keep hown fun k hk => setRow_other _ _ _ _ (by injection hk with hk; simp only at hk; omega)
/-- what it is replaced by -/
theorem Part.put {W : World} {lo Rb m q c : Nat} {cur cs : Array Value} {y : UInt8} (h : Part W lo Rb m (m + 1) cur) (hy : repL[m]? = some y) {fr : Nat × Nat} (hq : W.heap[q]? = some (.cells cs 5 fr)) (hlo : lo ≤ q) (hc : ∀ (j : Nat) (z : UInt8), (escB y)[j]? = some z → cs[j]? = some (Value.int .u8 z.toNat)) :
    Part (W.setRow Rb (partSet cur y.toNat [.slice (some ⟨q, 0, none⟩) (escB y).length c])) lo Rb (m + 1) (m + 1) (partSet cur y.toNat [.slice (some ⟨q, 0, none⟩) (escB y).length c]) := by
  have hyb := y.toNat_lt
  have hsz : y.toNat < cur.size := by rw [h.size]; omega
  refine ⟨setRow_heap _ _ _ _ _ _ h.big, by rw [partSet_size (by simp only [List.length_cons, List.length_nil]; omega)]; exact h.size, fun x hx => ?_, fun x hx => ?_, ?_, h.lo⟩
  · rw [mem_take_succ hy] at hx
    have hxy : x ≠ y := fun e => hx (.inr e)
    rw [partSet_one hsz, if_neg (fun e => hxy (UInt8.toNat_inj.1 e))]
    exact h.no x (fun e => hx (.inl e))
  · rw [mem_take_succ hy] at hx
    by_cases hxy : x = y
    · subst hxy
      exact ⟨q, c, cs, fr, by rw [partSet_one hsz, if_pos rfl], hlo, (setRow_other _ _ _ _ (fun e => by rw [e] at hq; exact absurd (type_eqF h.big hq) (by decide))).trans hq, hc⟩
    · obtain ⟨q', c', cs', fr', h1, h2, h3, h4⟩ := h.yes x (hx.resolve_right hxy)
      exact ⟨q', c', cs', fr', by rw [partSet_one hsz, if_neg (fun e => hxy (UInt8.toNat_inj.1 e))]; exact h1, h2, (setRow_other _ _ _ _ (fun e => by rw [e] at h3; exact absurd (type_eqF h.big h3) (by decide))).trans h3, h4⟩
  · obtain ⟨v, h1, h2⟩ := h.rep
    refine ⟨v, by rw [partSet_one hsz, if_neg (by omega)]; exact h1, own_keep h2 fun k hk => setRow_other _ _ _ _ (fun e => ?_)⟩
    obtain ⟨cs', he⟩ := own_type h2 hk
    rw [e] at he
    exact absurd (type_eq h.big he) (by decide)
theorem repB_iff (x : UInt8) : repB x = true ↔ x ∈ repL := by
  unfold repB repL
  simp only [Bool.or_eq_true, decide_eq_true_eq, List.mem_cons, List.not_mem_nil, or_false]
  constructor
  · rintro ((((h | h) | h) | h) | h) <;> simp [h]
  · rintro (h | h | h | h | h) <;> simp [h]
theorem Part.all {W : World} {lo Rb : Nat} {cur : Array Value} (h : Part W lo Rb 5 5 cur) : Bsr W Rb (fun k => lo ≤ k) := by
  have hT : repL.take 5 = repL := rfl
  refine ⟨fun x hx => ?_, fun x hx => ?_, ?_, h.lo⟩
  · rw [cell_of_heap h.big]
    exact h.no x (fun e => by rw [hT, ← repB_iff, hx] at e; cases e)
  · obtain ⟨q, c, cs, fr, h1, h2, h3, h4⟩ := h.yes x (by rw [hT, ← repB_iff]; exact hx)
    exact ⟨q, c, by rw [cell_of_heap h.big]; exact h1, h2, fun j y hj => by rw [cell_of_heapF h3]; exact h4 j y hj⟩
  · obtain ⟨v, h1, h2⟩ := h.rep
    obtain ⟨q, cap, rfl, hb, _⟩ := h2.form (by omega)
    refine ⟨q, cap, by rw [cell_of_heap h.big]; exact h1, hb, fun j y hj => ?_⟩
    have h3 := h2.cells (g := q) rfl j (.string ⟨#[y]⟩) (by rw [hT, List.getElem?_map, hj]; rfl)
    rw [Addr.add_lit, Nat.zero_add] at h3
    exact h3

set_option maxHeartbeats 4000000 in
set_option maxRecDepth 100000 in
theorem build_any {w : World} {R g cp : Nat} {d st sm : Int} (h : w.heap[R]? = some (.cells (rpC d st sm .nilIface (.slice (some ⟨g, 0, none⟩) 10 cp)) 90 (0, 0))) (hc : ∀ j v, onC[j]? = some v → w.cell? ⟨g, j, none⟩ = some v) :
    Calls Tryz.prog 73 #[.pointer (some ⟨R, 0, none⟩)] w fun e w' => ∃ Rb, e = .returned (.iface 151 (.pointer (some ⟨Rb, 0, none⟩))) ∧ Bsr w' Rb (fun k => w.heap.size ≤ k) ∧ Below w.heap.size w w' := by
  have q4 : w.cell? ⟨R, 4, none⟩ = some (.slice (some ⟨g, 0, none⟩) 10 cp) := cell_at h rfl
  have HC := Lib.hid hc
  clear h hc
  go_enter Tryz.func73, Tryz.ntmps73
  go_upto_region 5 with (fail)
  go_wp2_with fail
  go_loopg [4, 5] 5 (fun gg s4 s5 wr => ∃ k : Nat, k ≤ 5 ∧ 5 - k ≤ gg ∧ s4 = .bool (decide (k = 0)) ∧ s5 = .int .i64 ((2 * k : Nat) : Int) ∧ wr = w)
  case atStart => exact ⟨0, by omega, by omega, rfl, rfl, rfl⟩
  case round =>
    obtain ⟨k, hk, hg, rfl, rfl, hww⟩ := hrel
    have hww := hww.symm
    subst hww
    by_cases hlt : k < 5
    · have hiz : ((2 * k : Nat) : Int) < 10 := by omega
      have hiz2 : ((2 * k : Nat) : Int) + 1 < 10 := by omega
      obtain ⟨y, h1, h2, _, h4⟩ := pair_at k hlt
      have c1 := HC.out (2 * k) _ (onC_at h1)
      have c2 := HC.out (2 * k + 1) _ (onC_at h2)
      obtain ⟨l2, hl2⟩ : ∃ l2, escB y = l2 := ⟨_, rfl⟩
      rw [hl2] at c2 h4
      have h4b : (((l2.length : Nat) : Int) != 1) = true := by rw [bne_iff_ne]; omega
      have hs1 : (⟨[y].toArray⟩ : ByteArray).size = 1 := rfl
      have hs2 : (⟨l2.toArray⟩ : ByteArray).size = l2.length := sz_str l2
      obtain ⟨Y, hY⟩ : ∃ Y : ByteArray, (⟨[y].toArray⟩ : ByteArray) = Y := ⟨_, rfl⟩
      obtain ⟨Z, hZ⟩ : ∃ Z : ByteArray, (⟨l2.toArray⟩ : ByteArray) = Z := ⟨_, rfl⟩
      rw [hY] at c1 hs1
      rw [hZ] at c2 hs2
      have h4c : ((Z.size : Int) != 1) = true := by rw [hs2]; exact h4b
      obtain ⟨m, hm⟩ : ∃ m, 2 * k = m := ⟨_, rfl⟩
      rw [hm] at hiz hiz2 c1 c2 ⊢
      have HM := Lib.hid hm
      clear h1 h2 h4 hl2 hY hZ hm h4b hs2
      go_wp2_with fail
      go_roundg (5 - (k + 1))
      case measure => omega
      case rel => exact ⟨k + 1, by omega, Nat.le_refl _, rfl, by rw [← HM.out]; go_num, rfl⟩
    · obtain rfl : k = 5 := by omega
      obtain ⟨i0, hi0, hz0, hz1, hz2⟩ := info_str
      clear hlt
      go_upto_region 26 with (fail)
      go_wp2_with (refine wpList_make_own w (by rfl) _ _ 74 (by rfl) w.heap.size 9 i0 (.string ⟨#[]⟩) 1 Tryz.underlying74 hi0 hz0 hz1 .i64 .i64 _ 5 (by rfl) (by rfl) rfl (by rw [hz2]; omega) (by unfold maxLen; omega) (Nat.le_refl _) ?_)
      intro W1 hown hgr
      obtain ⟨q1, hq1⟩ : ∃ q, w.heap.size = q := ⟨_, rfl⟩
      rw [hq1] at hown ⊢
      have hb1 : Below w.heap.size w W1 := ⟨hgr.os, hgr.tape, hgr.output, hgr.size, fun k hk => hgr.block k hk (by simp)⟩
      obtain ⟨Rb, hRb⟩ : ∃ R, W1.heap.size = R := ⟨_, rfl⟩
      have HO1 := Lib.hid hown
      have HB1 := Lib.hid hb1
      have hzi : (Tryz.prog.info? 150).map (·.size) = some (bigC (.slice (some ⟨q1, 0, none⟩) 0 5)).size := by kernel_rfl
      clear hown hgr hb1
      go_wp2_with (first
        | (refine wpList_known (by rfl) (.build 150 #[(1, .tmp 94)]) (by rfl) (.agg (bigC (.slice (some ⟨q1, 0, none⟩) 0 5))) W1 (by kernel_rfl) ?_)
        | (refine wpList_known (by rfl) (.alloc 150) (by rfl) (.pointer (some ⟨W1.heap.size, 0, none⟩)) (W1.alloc (.cells (bigC (.slice none 0 0)) 150)) (by kernel_rfl) ?_)
        | (refine wpList_store_rowN (by rfl) 150 _ _ (by rfl) W1.heap.size (bigC (.slice (some ⟨q1, 0, none⟩) 0 5)) (by rfl) (by rfl) 150 (bigC (.slice none 0 0)) (by exact heap_alloc_new _ _) hzi (by rfl) (by kernel_rfl) (fun W => W.heap[W1.heap.size]? = some (.cells (bigC (.slice (some ⟨q1, 0, none⟩) 0 5)) 150 (0, 0)) ∧ Below W1.heap.size W1 W) (by rw [setRow_alloc _ _ _ _ _ rfl]; exact ⟨heap_alloc_new _ _, below_alloc (Below.refl _ _) (Nat.le_refl _) _⟩) ?_; rintro W2 h2))
      have HP2 : Hid (Part W2 w.heap.size Rb 0 0 (bigC (.slice (some ⟨q1, 0, none⟩) 0 5))) := by
        refine ⟨by rw [← hRb]; exact h2.1, rfl, fun x _ => ?_, fun x hx => by simp at hx, ⟨_, rfl, ?_⟩, by rw [← hRb]; exact HB1.out.size⟩
        · have hx := x.toNat_lt
          unfold bigC
          rw [List.getElem?_toArray, List.getElem?_append_left (by rw [List.length_replicate]; omega), List.getElem?_replicate, if_pos (by omega)]
        · rw [hq1]; exact own_later' HO1.out h2.2
      have HB2 := Lib.hid (HB1.out.trans (h2.2.mono HB1.out.size))
      (try rw [hRb])
      clear h2 hzi HB1 HO1 hRb q4 hq1
      go_loopg [12] 5 (fun gg s12 wr => ∃ (m : Nat) (cur : Array Value), m ≤ 5 ∧ 5 - m ≤ gg ∧ s12 = .int .i64 (8 - 2 * (m : Int)) ∧ Hid (Part wr w.heap.size Rb m m cur) ∧ Hid (Below w.heap.size w wr))
      case atStart => exact ⟨0, _, by omega, by omega, rfl, HP2.out, HB2.out⟩
      case round =>
        obtain ⟨m, cur, hm, hg, rfl, HP, HB⟩ := hrel
        by_cases hlt : m < 5
        · obtain ⟨y, h1, h2, h3, _⟩ := pair_at (4 - m) (by omega)
          rw [show 4 - (4 - m) = m by omega] at h3
          obtain ⟨n, hn⟩ : ∃ n, 2 * (4 - m) = n := ⟨_, rfl⟩
          rw [hn] at h1 h2
          have c1 := cell_later HB.out (HC.out n _ (onC_at h1))
          have c2 := cell_later HB.out (HC.out (n + 1) _ (onC_at h2))
          have hnz : (8 : Int) - 2 * (m : Int) = (n : Int) := by omega
          have hn8 : n ≤ 8 := by omega
          have hn0 : (0 : Int) ≤ (n : Int) := by omega
          have hi1 : (n : Int) < 10 := by omega
          have hi2 : (n : Int) + 1 < 10 := by omega
          obtain ⟨Y, hY⟩ : ∃ Y : ByteArray, (⟨[y].toArray⟩ : ByteArray) = Y := ⟨_, rfl⟩
          have hYs : Y.size = 1 := by rw [← hY]; rfl
          have hY0 : bt Y 0 = (y.toNat : Int) := by rw [← hY]; rfl
          have hbY := get_bt Y
          have HYY := Lib.hid hY
          rw [hY] at c1
          have hyb : (y.toNat : Int) < 256 := by have := y.toNat_lt; omega
          have HY := Lib.hid h3
          have HNZ := Lib.hid hnz
          have n1 : wr.cell? ⟨Rb, y.toNat, none⟩ = some (.slice none 0 0) := by
            rw [cell_of_heap HP.out.big]
            exact HP.out.no y (rep_new h3)
          obtain ⟨v, hv, hvo⟩ := HP.out.rep
          obtain ⟨av, cv, rfl⟩ : ∃ a c, v = .slice a m c := own_form' hvo
          have n2 : wr.cell? ⟨Rb, 256, none⟩ = some (.slice av m cv) := by rw [cell_of_heap HP.out.big]; exact hv
          have HV := Lib.hid (And.intro hv hvo)
          rw [hnz]
          clear h1 h2 h3 hY hn hnz hv hvo
          have heq : (binOp .eql 51 (.slice none 0 0) (.slice none 0 0)).run Tryz.prog wr = .ok (.bool true) wr := by kernel_rfl
          go_upto_region 33 with (fail)
          clear heq n1 c1 c2
          obtain ⟨WA, hWA⟩ : ∃ WA, wr.alloc (.cells #[.int .u8 (y.toNat : Int)] 5) = WA := ⟨_, rfl⟩
          have hbA : Below wr.heap.size wr WA := by rw [← hWA]; exact below_alloc (Below.refl _ _) (Nat.le_refl _) _
          have hxA : WA.heap[wr.heap.size]? = some (.cells #[.int .u8 (y.toNat : Int)] 5 (0, 0)) := by rw [← hWA]; exact heap_alloc_new _ _
          have HCV : Hid ((convert 51 9 (.slice (some ⟨wr.heap.size, 0, none⟩) 1 1)).run Tryz.prog WA = .ok (.string ⟨#[y]⟩) WA) :=
            run_convert_bytes_back (P := Tryz.prog) WA 51 9 5 ⟨wr.heap.size, 0, none⟩ 1 [y] Tryz.underlying51 (by kernel_rfl) Tryz.underlying9 (fun j hj => by
              rw [Addr.add_lit, Nat.zero_add, cell_of_heap hxA]
              have : j = 0 := by simpa using hj
              subst this
              rfl)
          have HPA := Lib.hid (HP.out.kept hbA)
          have HBA := Lib.hid (HB.out.trans (hbA.mono HB.out.size))
          obtain ⟨i1, hi1', hz1', hz2', hz3'⟩ := info_str
          have HbA := Lib.hid hbA
          clear hxA hbA
          go_wp2_with (first
            | (refine wpList_convert_known (by rfl) 51 9 _ (by rfl) (.slice (some ⟨wr.heap.size, 0, none⟩) 1 1) (.string ⟨#[y]⟩) (by rfl) (by first | exact HCV.out | (rw [hWA]; exact HCV.out)) ?_)
            | (at_builtin; refine wpList_append_lies _ (by rfl) _ _ 74 (by rfl) w.heap.size 9 i0 _ 1 16 Tryz.underlying74 hi0 hz0 hz1 hz2 rfl (by decide) _ m ((repL.take m).map fun y => .string ⟨#[y]⟩) (by rfl) (own_later' HV.out.2 (below_alloc HbA.out (Nat.le_refl _) _)) ⟨WA.heap.size, 0, none⟩ 1 1 [.string ⟨#[y]⟩] (by rfl) (by rfl) ?c1 ?c2 (by decide) ?c3 ?c4 ?c5 _ rfl ?_))
          case c1 => exact fun j u hj => cells_new _ _ _ _ _ hj
          case c2 => simp [Value.oneCell']
          case c3 => simp only [maxLen]; omega
          case c4 => omega
          case c5 => have := HBA.out.size; simp; omega
          intro q5 cap5 W6 hown hgr hat6 hlt6
          have hPL : Part (WA.alloc (.cells #[.string ⟨#[y]⟩] 9)) w.heap.size Rb m m cur := HPA.out.kept (below_alloc (Below.refl _ _) (Nat.le_refl _) _)
          have hx6 : W6.heap[Rb]? = some (.cells cur 150 (0, 0)) := (hgr.block Rb (Array.getElem?_eq_some_iff.1 hPL.big).1 (fun e => by
            obtain ⟨cs, he⟩ := own_type (own_later' HV.out.2 (below_alloc HbA.out (Nat.le_refl _) (.cells #[.string ⟨#[y]⟩] 9))) e.symm
            exact absurd (type_eq hPL.big he) (by decide))).trans hPL.big
          have HPT := Lib.hid (Part.app hPL HY.out HV.out.1 (by simpa using hown) hgr)
          have hlo := HP.out.lo
          have HB6 : Hid (Below w.heap.size w (W6.setRow Rb (partSet cur 256 [.slice (some ⟨q5, 0, none⟩) (m + 1) cap5]))) := by
            have h1 : Below w.heap.size w (WA.alloc (.cells #[.string ⟨#[y]⟩] 9)) := below_alloc HBA.out (Nat.le_refl _) _
            have h2 : Below w.heap.size w W6 := ⟨hgr.os.trans h1.os, hgr.tape.trans h1.tape, hgr.output.trans h1.output, Nat.le_trans h1.size hgr.size, fun k hk => (hgr.block k (Nat.lt_of_lt_of_le hk h1.size) (fun e => by have := (HV.out.2.lt k e.symm).1; omega)).trans (h1.block k hk)⟩
            exact below_one_row _ _ _ _ _ h2 hlo
          have X6 := Lib.hid hx6
          have hsz : cur.size = 257 := HP.out.size
          have HSZ := Lib.hid hsz
          clear hown hgr hat6 hlt6 hPL hx6 hsz HPA HCV
          go_upto_region 34 with (refine wpList_store_cellN (by rfl) 74 _ _ (by rfl) Rb 256 (.slice (some ⟨q5, 0, none⟩) (m + 1) cap5) (by rfl) (by rfl) (by rfl) 150 cur (by exact X6.out) (by rw [HSZ.out]; exact Nat.le_of_ble_eq_true rfl) (by kernel_rfl) (fun W => Part W w.heap.size Rb m (m + 1) (partSet cur 256 [.slice (some ⟨q5, 0, none⟩) (m + 1) cap5]) ∧ Below w.heap.size w W) (by exact ⟨HPT.out, HB6.out⟩) ?_; rintro W7 h7)
          have HP7 := Lib.hid h7.1
          have HB7 := Lib.hid h7.2
          clear h7 hWA HBA HbA X6 HPT HB6 n2 HV
          go_wp2_with (refine wpList_convert_bytesW (by rfl) 9 51 _ (by rfl) 5 Tryz.underlying9 Tryz.underlying51 (by kernel_rfl) (escB y) (by rfl) ?_)
          intro cap8 W8 hb8 cs8 f81 f82 hx8 hc8
          have HP8 := Lib.hid (HP7.out.kept hb8)
          have HB8 := Lib.hid (HB7.out.trans (hb8.mono HB7.out.size))
          have hyl := y.toNat_lt
          have HP9 := Lib.hid (Part.put (c := cap8) HP8.out HY.out hx8 HB7.out.size hc8)
          have HB9 := Lib.hid (below_one_row _ _ _ Rb (partSet (partSet cur 256 [.slice (some ⟨q5, 0, none⟩) (m + 1) cap5]) y.toNat [.slice (some ⟨W7.heap.size, 0, none⟩) (escB y).length cap8]) HB8.out hlo)
          obtain ⟨cur8, hcur8⟩ : ∃ c, partSet cur 256 [.slice (some ⟨q5, 0, none⟩) (m + 1) cap5] = c := ⟨_, rfl⟩
          rw [hcur8] at HP8 HP9 HB9
          obtain ⟨L8, hL8⟩ : ∃ L, (escB y).length = L := ⟨_, rfl⟩
          rw [hL8] at HP9 HB9 ⊢
          clear hb8 hx8 hc8 HP7 HB7 hcur8 hL8
          go_wp2_with (refine wpList_store_cellN (by rfl) 51 _ _ (by rfl) Rb y.toNat (.slice (some ⟨W7.heap.size, 0, none⟩) L8 cap8) (by rfl) (by rfl) (by rfl) 150 cur8 (by exact HP8.out.big) (by rw [HP8.out.size]; omega) (by kernel_rfl) (fun W => Part W w.heap.size Rb (m + 1) (m + 1) (partSet cur8 y.toNat [.slice (some ⟨W7.heap.size, 0, none⟩) L8 cap8]) ∧ Below w.heap.size w W) (by exact ⟨HP9.out, HB9.out⟩) ?_; rintro W9 h9)
          go_roundg (5 - (m + 1))
          case measure => omega
          case rel =>
            refine ⟨m + 1, _, by omega, Nat.le_refl _, ?_, h9.1, h9.2⟩
            have := HNZ.out
            congr 1
            first | omega | (push_cast; omega)
        · obtain rfl : m = 5 := by omega
          go_wp2_with fail
          go_ret
          exact ⟨Rb, rfl, HP.out.all, HB.out⟩

set_option maxHeartbeats 4000000 in
set_option maxRecDepth 100000 in
theorem buildOnce_any {w : World} {R g cp : Nat} {d st sm : Int} (h : w.heap[R]? = some (.cells (rpC d st sm .nilIface (.slice (some ⟨g, 0, none⟩) 10 cp)) 90 (0, 0))) (hc : ∀ j v, onC[j]? = some v → w.cell? ⟨g, j, none⟩ = some v) :
    Calls Tryz.prog 55 #[.pointer (some ⟨R, 0, none⟩)] w fun e w' => e = .returned (.tuple #[]) ∧ ∃ Rb, w'.heap[R]? = some (.cells (rpC d st sm (.iface 151 (.pointer (some ⟨Rb, 0, none⟩))) (.slice none 0 0)) 90 (0, 0)) ∧ Bsr w' Rb (fun k => w.heap.size ≤ k) ∧ Chg w w' (fun k => k = R) := by
  have HB := Lib.hid (build_any h hc)
  have hlt := (Array.getElem?_eq_some_iff.1 h).1
  have HX := Lib.hid h
  clear h hc
  go_enter Tryz.func55, Tryz.ntmps55
  go_wp2_with fail
  refine (HB.out).mono ?_
  rintro e W1 ⟨Rb, rfl, hb1, hw1⟩
  have hx1 := (hw1.block R hlt).trans HX.out
  have f3 : W1.frozen? ⟨R, 3, none⟩ = false := free_of_heap hx1
  have f4 : W1.frozen? ⟨R, 4, none⟩ = false := free_of_heap hx1
  have c3 : W1.cell? ⟨R, 3, none⟩ = some .nilIface := cell_at hx1 rfl
  have c4 : W1.cell? ⟨R, 4, none⟩ = some (.slice (some ⟨g, 0, none⟩) 10 cp) := cell_at hx1 rfl
  have H1 := Lib.hid hx1
  have HBS := Lib.hid hb1
  have HW1 := Lib.hid hw1
  have hRb : w.heap.size ≤ Rb := hb1.own
  clear hx1 hb1 hw1
  go_wp2_with fail
  go_end0
  refine ⟨rfl, Rb, ?_, ?_, ?_⟩
  · have h2 := heap_set H1.out (x := 3) (.iface 151 (.pointer (some ⟨Rb, 0, none⟩)))
    have h3 := heap_set h2 (x := 4) (.slice none 0 0)
    exact h3
  · refine HBS.out.kept fun k _ hk => ?_
    rw [Below.heap_setCell _ _ _ _ (by show k ≠ R; omega), Below.heap_setCell _ _ _ _ (by show k ≠ R; omega)]
  · exact (Chg.of_below HW1.out).trans ((mine_set W1 R 3 _).trans (mine_set _ R 4 _))
end Go.Proofs.YtgmgghbocidibaaGreatDoor
