/-
  LISTING: a page of entries.
-/
import Derived.Test.YtgklbmcnpnmkkaaDoorLsIter
import Derived.RangeFuncLeaves
namespace Go.Proofs.YtgklbmcnpnmkkaaDoor
open Go.RowKit

theorem region_inRound_k {P : Program} {n id : Nat} {l : List Oper} {Q : Exit → Act → World → Prop} {a : Act} {w : World} (r : Nat) (hd : noDefers l = true)
    (h : ∀ K : Act → World → Prop, (∀ a w, Q .normal a w → K a w) → wpList P l.toArray (Exit.then K (fun _ _ _ => False)) l a w) : (Code.region id l.toArray false).wpIn (Fence.wide.inRound r) n P Q a w := by
  refine Code.wpIn_mono (Q := Exit.then (Q .normal) (fun _ _ _ => False)) (fun e a w hq => ?_) (region_inRound r (fun ⟨a, w, h⟩ => h) hd (h _ fun _ _ hq => hq))
  cases e <;> first | exact hq | exact hq.elim
theorem drawn_inRound_k {P : Program} {n id : Nat} {ops : Array Oper} {Q : Exit → Act → World → Prop} {S : World → Prop} {a : Act} {w : World} (r : Nat) (hm : P.follows .mixedOrders = true) (hd : noDefers ops.toList = true) (hS : S w.drew)
    (h : S w.drew → ∀ K : Act → World → Prop, (∀ a w, Q .normal a w → K a w) → wpAnyH P .any ops (Exit.then K (fun _ _ _ => False)) S ops.size (Array.replicate ops.size false) a w.drew) : (Code.region id ops true).wpIn (Fence.wide.inRound r) n P Q a w := by
  refine Code.wpIn_mono (Q := Exit.then (Q .normal) (fun _ _ _ => False)) (fun e a w hq => ?_) (drawn_inRound (S := S) r hm (fun ⟨a, w, h⟩ => h) hd hS fun hS => h hS _ fun _ _ hq => hq)
  cases e <;> first | exact hq | exact hq.elim
theorem drawn_k {P : Program} {id : Nat} {ops : Array Oper} {Q : Exit → Act → World → Prop} {S : World → Prop} {a : Act} {w : World} (hm : P.follows .mixedOrders = true) (hS : S w.drew)
    (h : S w.drew → ∀ K : Act → World → Prop, (∀ a w, Q .normal a w → K a w) → wpAnyH P .any ops (Exit.then K (fun _ _ _ => False)) S ops.size (Array.replicate ops.size false) a w.drew) : (Code.region id ops true).wp P Q a w := by
  refine wp_mono (Q := Exit.then (Q .normal) (fun _ _ _ => False)) (wp_region_held_drew (S := S) hm hS fun hS => h hS _ fun _ _ hq => hq) (fun e a w hq => ?_)
  cases e <;> first | exact hq | exact hq.elim
theorem seq_cut {P : Program} {F : Fence} {n : Nat} {x y : Code} {Q : Exit → Act → World → Prop} {a : Act} {w : World} (C : Act → World → Prop) (h1 : ∀ a w, C a w → y.wpIn F n P Q a w) (h2 : x.wpIn F n P (Exit.then C Q) a w) : (Code.seq x y).wpIn F n P Q a w :=
  wpIn_seq (Code.wpIn_mono (fun e a w hq => by cases e <;> first | exact h1 _ _ hq | exact hq) h2)

def EntriesOut (W : World) (vl : Value) (pre delim : List UInt8) (ft : Nat) (e : Ending) (w' : World) : Prop :=
  e = .returned (.func (.func 56) #[] #[.pointer (some ⟨W.heap.size, 0, none⟩), .pointer (some ⟨W.heap.size + 1, 0, none⟩), .pointer (some ⟨W.heap.size + 3, 0, none⟩), .pointer (some ⟨W.heap.size + 2, 0, none⟩)]) ∧
    Capt w' W.heap.size vl pre delim ft ∧ Below W.heap.size W w' ∧ w'.heap.size = W.heap.size + 4
set_option maxHeartbeats 4000000 in
set_option maxRecDepth 100000 in
theorem entries_any (a : Option Addr) (n c : Nat) (pre delim : List UInt8) (ft fs : Nat) (va : Value) (W : World) :
    Calls Tryd.prog 46 #[.slice a n c, .string ⟨pre.toArray⟩, .string ⟨delim.toArray⟩, .agg #[.func (.func ft) #[] #[], .func (.func fs) #[] #[], va]] W (EntriesOut W (.slice a n c) pre delim ft) := by
  go_enter Tryd.func46, Tryd.ntmps46
  go_wp2_with fail
  go_ret
  refine ⟨rfl, ⟨?_, ?_, ?_, ?_⟩, (((((Below.refl _ W).alloc (Nat.le_refl _) _).alloc (by simp) _).alloc (by simp; omega) _).alloc (by simp; omega) _), by simp⟩
  · exact cell_past _ (cell_past _ (cell_past _ (cell_new _ _ _ _ _ _ rfl rfl)))
  · exact cell_past _ (cell_past _ (cell_new _ _ _ _ _ _ (by simp) rfl))
  · exact cell_past _ (cell_new _ _ _ _ _ _ (by simp) rfl)
  · exact cell_new _ _ _ _ _ _ (by simp) rfl

/-- a page as it is returned -/
def PageOut (pg : PageD) (w : World) (e : Ending) (w' : World) : Prop :=
  ∃ (vr : Value) (qs : List RowV), e = .returned (.agg #[vr, .bool pg.more, .string ⟨pg.next.toArray⟩, .int .i64 pg.entry]) ∧ qs.map RowV.d = pg.rows ∧ RowsOwn w' w.heap.size vr qs ∧ Below w.heap.size w w'
def pageZC : Array Value := #[.slice none 0 0, .bool false, .string ⟨#[]⟩, .int .i64 0]
/-- between two rounds of page: old blocks are as they were but for the page's own (gp), which holds what was told -/
structure PgAt (wr : World) (gp : Nat) (k : Kind) (after : List UInt8) (seq : Int) (m : Nat) (D : Nat) (told : List RowD) (A : World) : Prop where
  chg : Chg wr A (fun b => b = gp)
  row : ∃ (vr : Value) (qs : List RowV), A.heap[gp]? = some (.cells #[vr, .bool false, .string ⟨#[]⟩, .int .i64 0] 26 (0, 0)) ∧ RowsOwn A (D + 1) vr qs ∧ qs.map RowV.d = told.filter (beyond k after seq)
  len : (told.filter (beyond k after seq)).length ≤ m

/-- a round has said 'no more' -/
structure PgEnd (wr : World) (gp : Nat) (k : Kind) (after : List UInt8) (seq : Int) (m : Nat) (D : Nat) (told : List RowD) (A : World) : Prop where
  chg : Chg wr A (fun b => b = gp)
  row : ∃ (vr : Value) (qs : List RowV), A.heap[gp]? = some (.cells #[vr, .bool (decide (0 < m)), .string ⟨#[]⟩, .int .i64 0] 26 (0, 0)) ∧ RowsOwn A (D + 1) vr qs ∧ qs.map RowV.d = (told.filter (beyond k after seq)).take m
  len : (told.filter (beyond k after seq)).length = m + 1
theorem RowsOwn.grown {A B : World} {base : Nat} {vr : Value} {qs : List RowV} {row : Option Nat} (h : RowsOwn A base vr qs) (hg : A.grownBy B row) (hr : ∀ r, row = some r → r < base) : RowsOwn B base vr qs :=
  ⟨own_kept h.own fun g h1 h2 => hg.block g h2 (fun e => by have := hr g e.symm; have := (h.own.lt g h1).1; omega),
   fun p hp => (h.rows p hp).kept fun g h1 h2 => hg.block g h2 (fun e => by
     have := hr g e.symm
     rcases h1 with h1 | h1
     · have := ((h.rows p hp).blobs.lt g h1).1; omega
     · have := ((h.rows p hp).parts.lt g h1).1; omega)⟩
theorem Chg.grownOn {w A B : World} {M : Nat → Prop} {row : Option Nat} (h : Chg w A M) (hg : A.grownBy B row) (hr : ∀ r, row = some r → w.heap.size ≤ r ∨ M r) : Chg w B M :=
  ⟨hg.os.trans h.os, hg.tape.trans h.tape, hg.output.trans h.output, Nat.le_trans h.size hg.size, fun k hk hm => (hg.block k (Nat.lt_of_lt_of_le hk h.size) (fun e => by rcases hr k e.symm with h1 | h1; omega; exact hm h1)).trans (h.block k hk hm)⟩
theorem PgAt.grown {wr : World} {gp : Nat} {k : Kind} {after : List UInt8} {seq : Int} {m D : Nat} {told : List RowD} {A B : World} {row : Option Nat} (h : PgAt wr gp k after seq m D told A) (hgp : gp < wr.heap.size) (hg : A.grownBy B row) (hr : ∀ r, row = some r → wr.heap.size ≤ r ∧ r ≤ D) : PgAt wr gp k after seq m D told B := by
  obtain ⟨vr, qs, h1, h2, h3⟩ := h.row
  refine ⟨h.chg.grownOn hg fun r e => .inl (hr r e).1, ⟨vr, qs, (hg.block _ (Array.getElem?_eq_some_iff.1 h1).1 (fun e => by have := hr _ e.symm; omega)).trans h1, h2.grown hg fun r e => by have := hr r e; omega, h3⟩, h.len⟩
theorem PgEnd.grown {wr : World} {gp : Nat} {k : Kind} {after : List UInt8} {seq : Int} {m D : Nat} {told : List RowD} {A B : World} {row : Option Nat} (h : PgEnd wr gp k after seq m D told A) (hgp : gp < wr.heap.size) (hg : A.grownBy B row) (hr : ∀ r, row = some r → wr.heap.size ≤ r ∧ r ≤ D) : PgEnd wr gp k after seq m D told B := by
  obtain ⟨vr, qs, h1, h2, h3⟩ := h.row
  refine ⟨h.chg.grownOn hg fun r e => .inl (hr r e).1, ⟨vr, qs, (hg.block _ (Array.getElem?_eq_some_iff.1 h1).1 (fun e => by have := hr _ e.symm; omega)).trans h1, h2.grown hg fun r e => by have := hr r e; omega, h3⟩, h.len⟩
theorem pageOf_all {k : Kind} {after : List UInt8} {seq most : Int} {xs : List RowD} (h : (xs.filter (beyond k after seq)).length ≤ mostN most) : pageOf k after seq most xs = ⟨xs.filter (beyond k after seq), false, [], 0⟩ := by
  unfold pageOf
  simp only
  rw [if_neg (by omega), List.take_of_length_le h]
theorem pageOf_cut {k : Kind} {after : List UInt8} {seq most : Int} {told xs : List RowD} (hp : told <+: xs) (h : (told.filter (beyond k after seq)).length = mostN most + 1) :
    pageOf k after seq most xs = (if 0 < mostN most then ⟨(told.filter (beyond k after seq)).take (mostN most), true, (((told.filter (beyond k after seq)).take (mostN most)).getLastD rowZ).key, seqOf k (((told.filter (beyond k after seq)).take (mostN most)).getLastD rowZ)⟩ else ⟨(told.filter (beyond k after seq)).take (mostN most), false, [], 0⟩) := by
  obtain ⟨r, rfl⟩ := hp
  unfold pageOf
  simp only [List.filter_append]
  rw [List.take_append_of_le_length (by omega)]
  by_cases h0 : 0 < mostN most
  · rw [if_pos ⟨h0, by rw [List.length_append]; omega⟩, if_pos h0]
  · rw [if_neg (fun h => h0 h.1), if_neg h0]
theorem mostN_eq (most : Int) : min (max most 0) 1000 = (mostN most : Int) := by unfold mostN; omega
theorem mostN_le (most : Int) : mostN most ≤ 1000 := by unfold mostN; omega

theorem RowsOwn.keptB {A B : World} {base : Nat} {vr : Value} {qs : List RowV} (h : RowsOwn A base vr qs) (hk : ∀ g, base ≤ g → g < A.heap.size → B.heap[g]? = A.heap[g]?) : RowsOwn B base vr qs :=
  ⟨own_kept h.own fun g h1 h2 => hk g (h.own.lt g h1).1 h2,
   fun p hp => (h.rows p hp).kept fun g h1 h2 => hk g (by rcases h1 with h1 | h1; exact ((h.rows p hp).blobs.lt g h1).1; exact ((h.rows p hp).parts.lt g h1).1) h2⟩
theorem fin_keep {W : World} {g s : Nat} {cs : Array Value} {o : Obj} {b : Nat} (h1 : b ≠ g) (h2 : b ≠ s) : ((W.setRow g cs).putObj s o).heap[b]? = W.heap[b]? := (World.putObj_heap_other h2).trans (setRow_other _ _ _ _ h1)
theorem fin_below {w wr W : World} {gp g s : Nat} {cs : Array Value} {o : Obj} (h : Below w.heap.size w wr) (c : Chg wr W (fun b => b = gp)) (h1 : w.heap.size ≤ gp) (h2 : w.heap.size ≤ g) (h3 : w.heap.size ≤ s) : Below w.heap.size w ((W.setRow g cs).putObj s o) :=
  ⟨c.os.trans h.os, c.tape.trans h.tape, c.output.trans h.output, by rw [World.putObj_size]; simp; exact Nat.le_trans h.size c.size, fun k hk => (fin_keep (by omega) (by omega)).trans ((c.block k (Nat.lt_of_lt_of_le hk h.size) (by omega)).trans (h.block k hk))⟩

theorem Chg.cell {A B : World} {M : Nat → Prop} (h : Chg A B M) {b o : Nat} {u : Value} (hm : ¬ M b) (hu : A.cell? ⟨b, o, none⟩ = some u) : B.cell? ⟨b, o, none⟩ = some u := by
  rw [World.cell?_of_block (w := A) (h.block b (World.block_lt_of_cell? A _ hu) hm)]; exact hu
theorem Chg.below_on {A B C : World} {M : Nat → Prop} (h : Chg A B M) (k : Below B.heap.size B C) : Chg A C M := h.trans (Chg.of_below k)
theorem Chg.set_on {A B : World} {M : Nat → Prop} (h : Chg A B M) (a : Addr) (v : Value) (hm : M a.block) : Chg A (B.setCell a v) M := h.trans ((Chg.set B a v).mono fun k _ e => by rw [e]; exact hm)
theorem last_get {qs : List RowV} {N : Nat} {q : RowV} (hl : qs.length = N + 1) (hq : qs[N]? = some q) : (qs.map RowV.d).getLastD rowZ = q.d := by
  rw [List.getLastD_eq_getLast?, List.getLast?_map, List.getLast?_eq_getElem?, hl, Nat.add_sub_cancel, hq]
  rfl

set_option maxHeartbeats 16000000 in
set_option maxRecDepth 100000 in
theorem page_any (k : Kind) {w : World} {a0 : Option Addr} {c0 : Nat} {pre delim after : List UInt8} {seq most : Int} {ft fs : Nat} {va : Value} {ps : List RowV} {m0 : Int} (hV : ViewIs k ft fs va) (hR : RowsIn w (.slice a0 ps.length c0) ps)
    (hM : w.cell? ⟨0, 0, none⟩ = some (.int .i64 m0)) (hS : ∀ p ∈ ps, SizeOK p.d) (hX : ∀ p ∈ ps, p.d.key.length ≤ 140737488355328 ∧ (delim = [] ∨ p.d.key.length < 4294967281)) (hlen : ps.length ≤ 140737488351232) (hp0 : pre.length ≤ 140737488355328) (hd0 : delim.length ≤ 140737488355328)
    (hk0 : k = .objs → seq = 0) :
    Calls Tryd.prog 28 #[.slice a0 ps.length c0, .string ⟨pre.toArray⟩, .string ⟨delim.toArray⟩, .string ⟨after.toArray⟩, .int .i64 seq, .int .i64 most, .agg #[.func (.func ft) #[] #[], .func (.func fs) #[] #[], va]] w
      (PageOut (pageL k (ps.map RowV.d) pre delim after seq most) w) := by
  obtain ⟨i0, hi0, hz0, hz1, hz2⟩ := info_row
  have HV := Lib.hid hV
  have HR := Lib.hid hR
  have HM := Lib.hid hM
  have HS := Lib.hid hS
  have HX := Lib.hid hX
  have HK0 := Lib.hid hk0
  clear hV hR hM hS hX hk0
  refine (callsIn_wide (n := 1)).1 (callsIn_of_wp_marks Tryd.func28 rfl trivial (wpIn_wide.2 ?_))
  simp only [Tryd.ntmps28, List.size_toArray, List.length_cons, List.length_nil, Nat.reduceAdd, Nat.reduceSub, Array.replicate_succ, Array.replicate_zero, List.push_toArray, List.append_toArray, List.nil_append, List.cons_append]
  go_wp2_with fail
  simp only [Nat.add_assoc, Nat.reduceAdd]
  generalize hw6 : ((((((w.alloc (.cells #[.string ⟨after.toArray⟩] 9)).alloc (.cells #[.int .i64 seq] 3)).alloc (.cells #[.int .i64 (min (max most 0) 1000)] 3)).alloc (.cells #[.func (.func ft) #[] #[], .func (.func fs) #[] #[], va] 57)).alloc (.cells #[.slice none 0 0, .bool false, .string ⟨#[]⟩, .int .i64 0] 26)).alloc (.cells #[.slice none 0 0, .bool false, .string ⟨#[]⟩, .int .i64 0] 26)) = w6
  have b6 : Below w.heap.size w w6 := by rw [← hw6]; exact ((((((Below.refl _ w).alloc (Nat.le_refl _) _).alloc (by simp) _).alloc (by simp; omega) _).alloc (by simp; omega) _).alloc (by simp; omega) _).alloc (by simp; omega) _
  have z6 : w6.heap.size = w.heap.size + 6 := by rw [← hw6]; simp
  have fA : Hid (w6.heap[w.heap.size]? = some (.cells #[.string ⟨after.toArray⟩] 9 (0, 0))) := by show _ = _; rw [← hw6]; exact heap_old _ (heap_old _ (heap_old _ (heap_old _ (heap_old _ (heap_at _ _ rfl)))))
  have fS : Hid (w6.heap[w.heap.size + 1]? = some (.cells #[.int .i64 seq] 3 (0, 0))) := by show _ = _; rw [← hw6]; exact heap_old _ (heap_old _ (heap_old _ (heap_old _ (heap_at _ _ (by simp)))))
  have fM : Hid (w6.heap[w.heap.size + 2]? = some (.cells #[.int .i64 (min (max most 0) 1000)] 3 (0, 0))) := by show _ = _; rw [← hw6]; exact heap_old _ (heap_old _ (heap_old _ (heap_at _ _ (by simp))))
  have fV : Hid (w6.heap[w.heap.size + 3]? = some (.cells #[.func (.func ft) #[] #[], .func (.func fs) #[] #[], va] 57 (0, 0))) := by show _ = _; rw [← hw6]; exact heap_old _ (heap_old _ (heap_at _ _ (by simp)))
  have fR : Hid (w6.heap[w.heap.size + 4]? = some (.cells pageZC 26 (0, 0))) := by show _ = _; rw [← hw6]; exact heap_old _ (heap_at _ _ (by simp))
  have fP : Hid (w6.heap[w.heap.size + 5]? = some (.cells pageZC 26 (0, 0))) := by show _ = _; rw [← hw6]; exact heap_at _ _ (by simp)
  have B6 := Lib.hid b6
  clear b6 hw6
  refine (entries_any a0 ps.length c0 pre delim ft fs va w6).mono ?_
  rintro e wr ⟨rfl, hcap, hbr, hzr⟩
  rw [z6] at hcap hzr ⊢
  replace fA : Hid (wr.heap[w.heap.size]? = some (.cells #[.string ⟨after.toArray⟩] 9 (0, 0))) := (hbr.block _ (by omega)).trans fA.out
  replace fS : Hid (wr.heap[w.heap.size + 1]? = some (.cells #[.int .i64 seq] 3 (0, 0))) := (hbr.block _ (by omega)).trans fS.out
  replace fM : Hid (wr.heap[w.heap.size + 2]? = some (.cells #[.int .i64 (min (max most 0) 1000)] 3 (0, 0))) := (hbr.block _ (by omega)).trans fM.out
  replace fV : Hid (wr.heap[w.heap.size + 3]? = some (.cells #[.func (.func ft) #[] #[], .func (.func fs) #[] #[], va] 57 (0, 0))) := (hbr.block _ (by omega)).trans fV.out
  replace fR : Hid (wr.heap[w.heap.size + 4]? = some (.cells pageZC 26 (0, 0))) := (hbr.block _ (by omega)).trans fR.out
  replace fP : Hid (wr.heap[w.heap.size + 5]? = some (.cells pageZC 26 (0, 0))) := (hbr.block _ (by omega)).trans fP.out
  have BR : Hid (Below w.heap.size w wr) := B6.out.trans (hbr.mono (by omega))
  have HCAP := Lib.hid hcap
  have hzr : wr.heap.size = w.heap.size + 10 := by omega
  clear hcap hbr z6 B6
  simp only []
  go_wp2_with fail
  have z0 := BR.out.size
  refine wp_rangeFunc_own (gf := 56) (lb := #[.pointer (some ⟨w.heap.size + 6, 0, none⟩), .pointer (some ⟨w.heap.size + 6 + 1, 0, none⟩), .pointer (some ⟨w.heap.size + 6 + 3, 0, none⟩), .pointer (some ⟨w.heap.size + 6 + 2, 0, none⟩)]) (by rfl) (fun args W => ?eg)
    (GV := GVal) (Kp := fun D A B => Still w.heap.size (w.heap.size + 6) A B ∧ (wr.heap.size + 2 ≤ D → D < A.heap.size → B.heap[D]? = A.heap[D]?)) (xs := ents k pre delim rowZ (ps.map RowV.d))
    (fun W hW hz => ?seqown) (PgAt wr (w.heap.size + 5) k after seq (mostN most)) (fun c D told A => c = .exit 0 ∧ wr.heap.size + 2 ≤ D ∧ PgEnd wr (w.heap.size + 5) k after seq (mostN most) D told A)
    (fun D s A B row hD h hg hr => h.grown (by omega) hg fun r e => by rcases hr r e with h1 | h1 <;> omega)
    (fun c D s A B h hg => ?ixg) (fun D A B B' h hg => ?kp) (fun D hD => ?h0) ?hround ?hdone ?hstop
  case eg => simp [go_sem]
  case seqown =>
    intro l n J Jx hJ hJ0 hY
    refine callsIn_wide.2 ?_
    have hst : Still w.heap.size (w.heap.size + 6) wr W := Still.of_below hW
    refine (iter_any k (n0 := w.heap.size) (b0 := w.heap.size + 6) (m0 := m0) HV.out (HCAP.out.still hst) (fun A hA => ?_) HS.out HX.out hlen (by omega) hp0 hd0 l J Jx (fun D A B => Still w.heap.size (w.heap.size + 6) A B ∧ (wr.heap.size + 2 ≤ D → D < A.heap.size → B.heap[D]? = A.heap[D]?)) (fun D A B hD hl h => ⟨h.1, h.2 (by omega) hl⟩) hJ hJ0 hY).mono ?_
    · have hk : ∀ b, b < w.heap.size → A.heap[b]? = w.heap[b]? := fun b hb => (hA.2 b (.inl hb) (by omega)).trans ((hst.2 b (.inl hb) (by omega)).trans (BR.out.block b hb))
      exact ⟨HR.out.kept fun b o u hu => by rw [World.cell?_of_block (w := w) (hk b (World.block_lt_of_cell? w _ hu))]; exact hu, by rw [World.cell?_of_block (w := w) (hk _ (World.block_lt_of_cell? w _ HM.out))]; exact HM.out⟩
    · rintro e B ⟨rfl, h⟩
      exact ⟨⟨_, rfl⟩, h⟩
  case ixg =>
    obtain ⟨h1, h2, h3⟩ := h
    exact ⟨h1, h2, h3.grown (by omega) hg fun r e => by injection e with e; omega⟩
  case kp =>
    exact ⟨h.1.trans ⟨hg.size, fun b hb hl => hg.block b hl (fun e => by injection e with e; omega)⟩, fun hD hl => (hg.block D (Nat.lt_of_lt_of_le hl h.1.1) (fun e => by injection e with e; omega)).trans (h.2 hD hl)⟩
  case h0 =>
    exact ⟨Chg.refl _ _, ⟨.slice none 0 0, [], fP.out, ⟨World.ownsRow_nil _ _ _ _, fun p hp => by cases hp⟩, rfl⟩, Nat.zero_le _⟩
  case hround =>
    intro m' D pre' x v A hD hDA hgv hi hdef hloop hpx
    obtain ⟨p, rfl, rfl, hown, hkl⟩ := hgv
    obtain ⟨rl, hloop⟩ := hloop
    obtain ⟨pc, hpc⟩ : ∃ pc : Array Value, p.cells.toArray = pc := ⟨_, rfl⟩
    have HPC := Lib.hid hpc
    have hps : Hid (pc.size = 18) := by show _ = _; rw [← hpc]; rfl
    have hpo : Hid ((pc.all fun x => x.oneCell') = true) := by show _ = _; rw [← hpc]; exact hown.ones
    have hx0 : Hid (pc[0]? = some (.string ⟨p.d.key.toArray⟩)) := by show _ = _; rw [← hpc]; rfl
    have hx1 : Hid (pc[1]? = some (.bool p.d.common)) := by show _ = _; rw [← hpc]; rfl
    rw [hpc]
    have HOWN := Lib.hid hown
    have HI := Lib.hid hi
    have HDEF := Lib.hid hdef
    have HLOOP := Lib.hid hloop
    have HPX := Lib.hid hpx
    clear hpc hown hi hdef hloop hpx
    have zA := HI.out.chg.size
    have P1 : Hid ((fun B : World => B.heap[A.heap.size]? = some (.cells pc 36 (0, 0)) ∧ B.heap.size = A.heap.size + 1 ∧ Below A.heap.size A B) ((A.alloc (.cells rowZC 36)).setRow A.heap.size pc)) := by
      rw [setRow_alloc _ _ _ _ _ rfl]
      exact ⟨heap_alloc_new _ _, by simp, below_alloc (Below.refl _ _) (Nat.le_refl _) _⟩
    refine region_inRound_k _ (by kernel_rfl) fun K hK => ?_
    simp only [List.setIfInBounds_toArray, List.set_cons_zero, List.set_cons_succ]
    go_wp2_with (refine wpList_store_rowN (by rfl) 36 _ _ (by rfl) A.heap.size pc (by rfl) (by rfl) 36 rowZC (by exact heap_alloc_new _ _) (by rw [hps.out]; kernel_rfl) (by rw [hps.out]; rfl) (by exact hpo.out) (fun B : World => B.heap[A.heap.size]? = some (.cells pc 36 (0, 0)) ∧ B.heap.size = A.heap.size + 1 ∧ Below A.heap.size A B) (by exact P1.out) ?_
                 clear P1
                 rintro A₁ ⟨h1, z1, b1⟩
                 have H1 := Lib.hid h1
                 have B1 := Lib.hid b1
                 clear h1 b1)
    refine ⟨B1.out.block _ (by omega), B1.out.block _ (by omega), fun A₂ g2 => ?_⟩
    have G2 := Lib.hid g2
    have z2 := g2.size
    have H2 : Hid (A₂.heap[A.heap.size]? = some (.cells pc 36 (0, 0))) := (g2.block _ (by omega) (fun e => by injection e with e; omega)).trans H1.out
    have I2 : Hid (PgAt wr (w.heap.size + 5) k after seq (mostN most) D pre' A₂) := (HI.out.grown (row := none) (by omega) ⟨B1.out.os, B1.out.tape, B1.out.output, B1.out.size, fun k hk _ => B1.out.block k hk⟩ (fun r hr => by cases hr)).grown (by omega) g2 (fun r hr => by injection hr with hr; omega)
    have O2 : Hid (RowOwn A₂ (D + 1) p) := (HOWN.out.later B1.out).kept fun g h1 h2 => g2.block g h2 (fun e => by
      injection e with e
      rcases h1 with h1 | h1
      · have := (HOWN.out.blobs.lt g h1).1; omega
      · have := (HOWN.out.parts.lt g h1).1; omega)
    have hold : ∀ b, b < wr.heap.size → b ≠ w.heap.size + 5 → A₂.heap[b]? = wr.heap[b]? := fun b h1 h2 => I2.out.chg.block b h1 h2
    have cS : A₂.cell? ⟨w.heap.size + 1, 0, none⟩ = some (.int .i64 seq) := cell_of_heap ((hold _ (by omega) (by omega)).trans fS.out)
    have cA : A₂.cell? ⟨w.heap.size, 0, none⟩ = some (.string ⟨after.toArray⟩) := cell_of_heap ((hold _ (by omega) (by omega)).trans fA.out)
    have cM : A₂.cell? ⟨w.heap.size + 2, 0, none⟩ = some (.int .i64 (min (max most 0) 1000)) := cell_of_heap ((hold _ (by omega) (by omega)).trans fM.out)
    have cVs : A₂.cell? ⟨w.heap.size + 3, 1, none⟩ = some (.func (.func fs) #[] #[]) := cell_of_heap ((hold _ (by omega) (by omega)).trans fV.out)
    have cVa : A₂.cell? ⟨w.heap.size + 3, 2, none⟩ = some va := cell_of_heap ((hold _ (by omega) (by omega)).trans fV.out)
    have cK : A₂.cell? ⟨A.heap.size, 0, none⟩ = some (.string ⟨p.d.key.toArray⟩) := (cell_of_heap H2.out).trans hx0.out
    have cC : A₂.cell? ⟨A.heap.size, 1, none⟩ = some (.bool p.d.common) := (cell_of_heap H2.out).trans hx1.out
    clear g2 hold H1
    obtain ⟨sm, hsm⟩ : ∃ sm, (decide (0 < seq) && !p.d.common && p.d.key == after && behindN k (seqOf k p.d) seq) = sm := ⟨_, rfl⟩
    refine wpIn_block (seq_cut (fun a5 A5 => ∃ u28 u29 u30 u31 u32 u33 u34 u35 u36 u37 u38 u39 u40 u41 u42 u43 u44 u45 u46 u47 u48 u49 u50 : Value, a5 = { tmps := #[Value.slice a0 ps.length c0, .string ⟨pre.toArray⟩, .string ⟨delim.toArray⟩, .string ⟨after.toArray⟩, .int .i64 seq, .int .i64 most, .agg #[.func (.func ft) #[] #[], .func (.func fs) #[] #[], va], undef, undef, undef, .pointer (some ⟨w.heap.size, 0, none⟩), .pointer (some ⟨w.heap.size + 1, 0, none⟩), .pointer (some ⟨w.heap.size + 2, 0, none⟩), .pointer (some ⟨w.heap.size + 3, 0, none⟩), .pointer (some ⟨w.heap.size + 4, 0, none⟩), .pointer (some ⟨w.heap.size + 5, 0, none⟩), .pointer (some ⟨A.heap.size, 0, none⟩), .bool sm, undef, .int .i64 most, .int .i64 (max most 0), .int .i64 (min (max most 0) 1000), Value.slice a0 ps.length c0, .string ⟨pre.toArray⟩, .string ⟨delim.toArray⟩, .agg #[.func (.func ft) #[] #[], .func (.func fs) #[] #[], va], .func (.func 56) #[] #[.pointer (some ⟨w.heap.size + 6, 0, none⟩), .pointer (some ⟨w.heap.size + 6 + 1, 0, none⟩), .pointer (some ⟨w.heap.size + 6 + 3, 0, none⟩), .pointer (some ⟨w.heap.size + 6 + 2, 0, none⟩)], .agg pc, u28, u29, u30, u31, u32, u33, u34, u35, u36, u37, u38, u39, u40, u41, u42, u43, u44, u45, u46, u47, u48, u49, u50, undef, undef, undef, undef, undef, undef, undef, undef, undef, undef, undef, undef, undef, undef, undef, undef, undef, undef, undef, undef, undef, undef, undef, undef, undef, undef, undef, undef, undef, undef, undef, undef, undef, undef, undef, undef, undef, undef, undef], defers := [] } ∧ Below A₂.heap.size A₂ A5) ?rest ?r5)
    case r5 =>
      by_cases hs0 : 0 < seq
      · have hs1 : decide (0 < seq) = true := by simpa using hs0
        cases hcm : p.d.common with
        | true =>
          rw [hcm] at cC hsm
          obtain rfl : sm = false := by rw [← hsm, hs1]; rfl
          refine drawn_inRound_k (S := fun B : World => Below A₂.heap.size A₂ B) _ (by kernel_rfl) (by kernel_rfl) (Below.refl _ _).drew (fun hS0 K0 hK0 => ?_)
          refine wpAnyH_take (i := 0) (oi := { dst := some 28, op := _, type := _, pos := _, after := _, guard := _ }) (v := ?_) rfl (by kernel_rfl) (by kernel_rfl) (by kernel_rfl) (fun _ _ _ h => h) (Or.inl ⟨by kernel_rfl, ?_⟩) (by assumption) ?_
          rotate_left
          · (intro w hSw; (try dsimp only at hSw); have k1 := cell_later hSw cS; have k2 := cell_later hSw cC; have k3 := cell_later hSw cK; have k4 := cell_later hSw cA; have k5 := cell_later hSw cVs; have k6 := cell_later hSw cVa; go_simp); all_goals (with_reducible rfl)
          try simp only [Act.put, List.setIfInBounds_toArray, List.set_cons_zero, List.set_cons_succ]
          refine wpAnyH_take (i := 1) (oi := { dst := some 29, op := _, type := _, pos := _, after := _, guard := _ }) (v := ?_) rfl (by kernel_rfl) (by kernel_rfl) (by kernel_rfl) (fun _ _ _ h => h) (Or.inl ⟨by kernel_rfl, ?_⟩) (by assumption) ?_
          rotate_left
          · (intro w hSw; (try dsimp only at hSw); go_simp); all_goals (with_reducible rfl)
          try simp only [Act.put, List.setIfInBounds_toArray, List.set_cons_zero, List.set_cons_succ]
          refine wpAnyH_take (i := 2) (oi := { dst := some 30, op := _, type := _, pos := _, after := _, guard := _ }) (v := ?_) rfl (by kernel_rfl) (by kernel_rfl) (by kernel_rfl) (fun _ _ _ h => h) (Or.inl ⟨by kernel_rfl, ?_⟩) (by assumption) ?_
          rotate_left
          · (intro w hSw; (try dsimp only at hSw); go_simp); all_goals (with_reducible rfl)
          try simp only [Act.put, List.setIfInBounds_toArray, List.set_cons_zero, List.set_cons_succ]
          refine wpAnyH_take (i := 3) (oi := { dst := some 31, op := _, type := _, pos := _, after := _, guard := _ }) (v := ?_) rfl (by kernel_rfl) (by kernel_rfl) (by kernel_rfl) (fun _ _ _ h => h) (Or.inl ⟨by kernel_rfl, ?_⟩) (by assumption) ?_
          rotate_left
          · (intro w hSw; (try dsimp only at hSw); go_simp); all_goals (with_reducible rfl)
          try simp only [Act.put, List.setIfInBounds_toArray, List.set_cons_zero, List.set_cons_succ]
          refine wpAnyH_take (i := 4) (oi := { dst := some 32, op := _, type := _, pos := _, after := _, guard := _ }) (v := ?_) rfl (by kernel_rfl) (by kernel_rfl) (by kernel_rfl) (fun _ _ _ h => h) (Or.inl ⟨by kernel_rfl, ?_⟩) (by assumption) ?_
          rotate_left
          · (intro w hSw; (try dsimp only at hSw); have k1 := cell_later hSw cS; have k2 := cell_later hSw cC; have k3 := cell_later hSw cK; have k4 := cell_later hSw cA; have k5 := cell_later hSw cVs; have k6 := cell_later hSw cVa; go_simp); all_goals (with_reducible rfl)
          try simp only [Act.put, List.setIfInBounds_toArray, List.set_cons_zero, List.set_cons_succ]
          refine wpAnyH_take (i := 5) (oi := { dst := some 33, op := _, type := _, pos := _, after := _, guard := _ }) (v := ?_) rfl (by kernel_rfl) (by kernel_rfl) (by kernel_rfl) (fun _ _ _ h => h) (Or.inl ⟨by kernel_rfl, ?_⟩) (by assumption) ?_
          rotate_left
          · (intro w hSw; (try dsimp only at hSw); go_simp); all_goals (with_reducible rfl)
          try simp only [Act.put, List.setIfInBounds_toArray, List.set_cons_zero, List.set_cons_succ]
          refine wpAnyH_take (i := 6) (oi := { dst := some 34, op := _, type := _, pos := _, after := _, guard := _ }) (v := ?_) rfl (by kernel_rfl) (by kernel_rfl) (by kernel_rfl) (fun _ _ _ h => h) (Or.inl ⟨by kernel_rfl, ?_⟩) (by assumption) ?_
          rotate_left
          · (intro w hSw; (try dsimp only at hSw); go_simp); all_goals (with_reducible rfl)
          try simp only [Act.put, List.setIfInBounds_toArray, List.set_cons_zero, List.set_cons_succ]
          refine wpAnyH_take (i := 7) (oi := { dst := some 35, op := _, type := _, pos := _, after := _, guard := _ }) (v := ?_) rfl (by kernel_rfl) (by kernel_rfl) (by kernel_rfl) (fun _ _ _ h => h) (Or.inl ⟨by kernel_rfl, ?_⟩) (by assumption) ?_
          rotate_left
          · (intro w hSw; (try dsimp only at hSw); go_simp); all_goals (with_reducible rfl)
          try simp only [Act.put, List.setIfInBounds_toArray, List.set_cons_zero, List.set_cons_succ]
          refine wpAnyH_take (i := 8) (oi := { dst := some 36, op := _, type := _, pos := _, after := _, guard := _ }) (v := undef) rfl (by kernel_rfl) (by kernel_rfl) (by kernel_rfl) (fun _ _ _ h => h) (Or.inr ⟨by kernel_rfl, rfl⟩) (by assumption) ?_
          try simp only [Act.put, List.setIfInBounds_toArray, List.set_cons_zero, List.set_cons_succ]
          refine wpAnyH_take (i := 9) (oi := { dst := some 37, op := _, type := _, pos := _, after := _, guard := _ }) (v := undef) rfl (by kernel_rfl) (by kernel_rfl) (by kernel_rfl) (fun _ _ _ h => h) (Or.inr ⟨by kernel_rfl, rfl⟩) (by assumption) ?_
          try simp only [Act.put, List.setIfInBounds_toArray, List.set_cons_zero, List.set_cons_succ]
          refine wpAnyH_take (i := 10) (oi := { dst := some 38, op := _, type := _, pos := _, after := _, guard := _ }) (v := undef) rfl (by kernel_rfl) (by kernel_rfl) (by kernel_rfl) (fun _ _ _ h => h) (Or.inr ⟨by kernel_rfl, rfl⟩) (by assumption) ?_
          try simp only [Act.put, List.setIfInBounds_toArray, List.set_cons_zero, List.set_cons_succ]
          refine wpAnyH_take (i := 11) (oi := { dst := some 39, op := _, type := _, pos := _, after := _, guard := _ }) (v := undef) rfl (by kernel_rfl) (by kernel_rfl) (by kernel_rfl) (fun _ _ _ h => h) (Or.inr ⟨by kernel_rfl, rfl⟩) (by assumption) ?_
          try simp only [Act.put, List.setIfInBounds_toArray, List.set_cons_zero, List.set_cons_succ]
          refine wpAnyH_take (i := 12) (oi := { dst := some 40, op := _, type := _, pos := _, after := _, guard := _ }) (v := ?_) rfl (by kernel_rfl) (by kernel_rfl) (by kernel_rfl) (fun _ _ _ h => h) (Or.inl ⟨by kernel_rfl, ?_⟩) (by assumption) ?_
          rotate_left
          · (intro w hSw; (try dsimp only at hSw); go_simp); all_goals (with_reducible rfl)
          try simp only [Act.put, List.setIfInBounds_toArray, List.set_cons_zero, List.set_cons_succ]
          refine wpAnyH_take (i := 13) (oi := { dst := some 41, op := _, type := _, pos := _, after := _, guard := _ }) (v := ?_) rfl (by kernel_rfl) (by kernel_rfl) (by kernel_rfl) (fun _ _ _ h => h) (Or.inl ⟨by kernel_rfl, ?_⟩) (by assumption) ?_
          rotate_left
          · (intro w hSw; (try dsimp only at hSw); go_simp); all_goals (with_reducible rfl)
          try simp only [Act.put, List.setIfInBounds_toArray, List.set_cons_zero, List.set_cons_succ]
          refine wpAnyH_take (i := 14) (oi := { dst := some 42, op := _, type := _, pos := _, after := _, guard := _ }) (v := undef) rfl (by kernel_rfl) (by kernel_rfl) (by kernel_rfl) (fun _ _ _ h => h) (Or.inr ⟨by kernel_rfl, rfl⟩) (by assumption) ?_
          try simp only [Act.put, List.setIfInBounds_toArray, List.set_cons_zero, List.set_cons_succ]
          refine wpAnyH_take (i := 15) (oi := { dst := some 43, op := _, type := _, pos := _, after := _, guard := _ }) (v := undef) rfl (by kernel_rfl) (by kernel_rfl) (by kernel_rfl) (fun _ _ _ h => h) (Or.inr ⟨by kernel_rfl, rfl⟩) (by assumption) ?_
          try simp only [Act.put, List.setIfInBounds_toArray, List.set_cons_zero, List.set_cons_succ]
          refine wpAnyH_take (i := 16) (oi := { dst := some 44, op := _, type := _, pos := _, after := _, guard := _ }) (v := undef) rfl (by kernel_rfl) (by kernel_rfl) (by kernel_rfl) (fun _ _ _ h => h) (Or.inr ⟨by kernel_rfl, rfl⟩) (by assumption) ?_
          try simp only [Act.put, List.setIfInBounds_toArray, List.set_cons_zero, List.set_cons_succ]
          refine wpAnyH_take (i := 17) (oi := { dst := some 45, op := _, type := _, pos := _, after := _, guard := _ }) (v := undef) rfl (by kernel_rfl) (by kernel_rfl) (by kernel_rfl) (fun _ _ _ h => h) (Or.inr ⟨by kernel_rfl, rfl⟩) (by assumption) ?_
          try simp only [Act.put, List.setIfInBounds_toArray, List.set_cons_zero, List.set_cons_succ]
          refine wpAnyH_take (i := 18) (oi := { dst := some 46, op := _, type := _, pos := _, after := _, guard := _ }) (v := undef) rfl (by kernel_rfl) (by kernel_rfl) (by kernel_rfl) (fun _ _ _ h => h) (Or.inr ⟨by kernel_rfl, rfl⟩) (by assumption) ?_
          try simp only [Act.put, List.setIfInBounds_toArray, List.set_cons_zero, List.set_cons_succ]
          refine wpAnyH_take (i := 19) (oi := { dst := some 47, op := _, type := _, pos := _, after := _, guard := _ }) (v := undef) rfl (by kernel_rfl) (by kernel_rfl) (by kernel_rfl) (fun _ _ _ h => h) (Or.inr ⟨by kernel_rfl, rfl⟩) (by assumption) ?_
          try simp only [Act.put, List.setIfInBounds_toArray, List.set_cons_zero, List.set_cons_succ]
          refine wpAnyH_take (i := 20) (oi := { dst := some 48, op := _, type := _, pos := _, after := _, guard := _ }) (v := undef) rfl (by kernel_rfl) (by kernel_rfl) (by kernel_rfl) (fun _ _ _ h => h) (Or.inr ⟨by kernel_rfl, rfl⟩) (by assumption) ?_
          try simp only [Act.put, List.setIfInBounds_toArray, List.set_cons_zero, List.set_cons_succ]
          refine wpAnyH_take (i := 21) (oi := { dst := some 49, op := _, type := _, pos := _, after := _, guard := _ }) (v := undef) rfl (by kernel_rfl) (by kernel_rfl) (by kernel_rfl) (fun _ _ _ h => h) (Or.inr ⟨by kernel_rfl, rfl⟩) (by assumption) ?_
          try simp only [Act.put, List.setIfInBounds_toArray, List.set_cons_zero, List.set_cons_succ]
          refine wpAnyH_take (i := 22) (oi := { dst := some 50, op := _, type := _, pos := _, after := _, guard := _ }) (v := ?_) rfl (by kernel_rfl) (by kernel_rfl) (by kernel_rfl) (fun _ _ _ h => h) (Or.inl ⟨by kernel_rfl, ?_⟩) (by assumption) ?_
          rotate_left
          · (intro w hSw; (try dsimp only at hSw); go_simp); all_goals (with_reducible rfl)
          try simp only [Act.put, List.setIfInBounds_toArray, List.set_cons_zero, List.set_cons_succ]
          refine wpAnyH_take (i := 23) (oi := { dst := some 17, op := _, type := _, pos := _, after := _, guard := _ }) (v := ?_) rfl (by kernel_rfl) (by kernel_rfl) (by kernel_rfl) (fun _ _ _ h => h) (Or.inl ⟨by kernel_rfl, ?_⟩) (by assumption) ?_
          rotate_left
          · (intro w hSw; (try dsimp only at hSw); go_simp); all_goals (with_reducible rfl)
          try simp only [Act.put, List.setIfInBounds_toArray, List.set_cons_zero, List.set_cons_succ]
          refine wpAnyH_done (by kernel_rfl) ?_ _
          refine hK0 _ _ ?_
          exact ⟨_, _, _, _, _, _, _, _, _, _, _, _, _, _, _, _, _, _, _, _, _, _, _, rfl, hS0⟩

        | false =>
          rw [hcm] at cC hsm
          by_cases hka : p.d.key = after
          · have hkb : (p.d.key == after) = true := by simpa using hka
            obtain rfl : sm = behindN k (seqOf k p.d) seq := by rw [← hsm, hs1, hkb]; rfl
            have hcA : A₂.cell? ⟨w.heap.size, 0, none⟩ = some (.string ⟨p.d.key.toArray⟩) := by rw [cA, hka]
            clear cA
            have cA := hcA
            obtain ⟨fa, rfl, ⟨fnA, hfA, hnA, hbA⟩, hAF⟩ := HV.out.after (fun e => by have := HK0.out e; omega)
            obtain ⟨fnS, hfS, hnS, hbS⟩ := HV.out.gs
            have HFA := Lib.hid hfA
            have HFS := Lib.hid hfS
            have HAF := Lib.hid hAF
            have HSQ : Hid (∀ B, Calls Tryd.prog fs #[.agg pc] B fun e w' => e = .returned (.int .i64 (seqOf k p.d)) ∧ Below B.heap.size B w') := fun B => by
              have := HV.out.seq p B
              rw [HPC.out] at this
              exact this
            clear hfA hfS hAF
            refine drawn_inRound_k (S := fun B : World => Below A₂.heap.size A₂ B) _ (by kernel_rfl) (by kernel_rfl) (Below.refl _ _).drew (fun hS0 K0 hK0 => ?_)
            refine wpAnyH_take (i := 0) (oi := { dst := some 28, op := _, type := _, pos := _, after := _, guard := _ }) (v := ?_) rfl (by kernel_rfl) (by kernel_rfl) (by kernel_rfl) (fun _ _ _ h => h) (Or.inl ⟨by kernel_rfl, ?_⟩) (by assumption) ?_
            rotate_left
            · (intro w hSw; (try dsimp only at hSw); have k1 := cell_later hSw cS; have k2 := cell_later hSw cC; have k3 := cell_later hSw cK; have k4 := cell_later hSw cA; have k5 := cell_later hSw cVs; have k6 := cell_later hSw cVa; go_simp); all_goals (with_reducible rfl)
            try simp only [Act.put, List.setIfInBounds_toArray, List.set_cons_zero, List.set_cons_succ]
            refine wpAnyH_take (i := 1) (oi := { dst := some 29, op := _, type := _, pos := _, after := _, guard := _ }) (v := ?_) rfl (by kernel_rfl) (by kernel_rfl) (by kernel_rfl) (fun _ _ _ h => h) (Or.inl ⟨by kernel_rfl, ?_⟩) (by assumption) ?_
            rotate_left
            · (intro w hSw; (try dsimp only at hSw); go_simp); all_goals (with_reducible rfl)
            try simp only [Act.put, List.setIfInBounds_toArray, List.set_cons_zero, List.set_cons_succ]
            refine wpAnyH_take (i := 2) (oi := { dst := some 30, op := _, type := _, pos := _, after := _, guard := _ }) (v := ?_) rfl (by kernel_rfl) (by kernel_rfl) (by kernel_rfl) (fun _ _ _ h => h) (Or.inl ⟨by kernel_rfl, ?_⟩) (by assumption) ?_
            rotate_left
            · (intro w hSw; (try dsimp only at hSw); go_simp); all_goals (with_reducible rfl)
            try simp only [Act.put, List.setIfInBounds_toArray, List.set_cons_zero, List.set_cons_succ]
            refine wpAnyH_take (i := 3) (oi := { dst := some 31, op := _, type := _, pos := _, after := _, guard := _ }) (v := ?_) rfl (by kernel_rfl) (by kernel_rfl) (by kernel_rfl) (fun _ _ _ h => h) (Or.inl ⟨by kernel_rfl, ?_⟩) (by assumption) ?_
            rotate_left
            · (intro w hSw; (try dsimp only at hSw); go_simp); all_goals (with_reducible rfl)
            try simp only [Act.put, List.setIfInBounds_toArray, List.set_cons_zero, List.set_cons_succ]
            refine wpAnyH_take (i := 4) (oi := { dst := some 32, op := _, type := _, pos := _, after := _, guard := _ }) (v := ?_) rfl (by kernel_rfl) (by kernel_rfl) (by kernel_rfl) (fun _ _ _ h => h) (Or.inl ⟨by kernel_rfl, ?_⟩) (by assumption) ?_
            rotate_left
            · (intro w hSw; (try dsimp only at hSw); have k1 := cell_later hSw cS; have k2 := cell_later hSw cC; have k3 := cell_later hSw cK; have k4 := cell_later hSw cA; have k5 := cell_later hSw cVs; have k6 := cell_later hSw cVa; go_simp); all_goals (with_reducible rfl)
            try simp only [Act.put, List.setIfInBounds_toArray, List.set_cons_zero, List.set_cons_succ]
            refine wpAnyH_take (i := 5) (oi := { dst := some 33, op := _, type := _, pos := _, after := _, guard := _ }) (v := ?_) rfl (by kernel_rfl) (by kernel_rfl) (by kernel_rfl) (fun _ _ _ h => h) (Or.inl ⟨by kernel_rfl, ?_⟩) (by assumption) ?_
            rotate_left
            · (intro w hSw; (try dsimp only at hSw); go_simp); all_goals (with_reducible rfl)
            try simp only [Act.put, List.setIfInBounds_toArray, List.set_cons_zero, List.set_cons_succ]
            refine wpAnyH_take (i := 6) (oi := { dst := some 34, op := _, type := _, pos := _, after := _, guard := _ }) (v := ?_) rfl (by kernel_rfl) (by kernel_rfl) (by kernel_rfl) (fun _ _ _ h => h) (Or.inl ⟨by kernel_rfl, ?_⟩) (by assumption) ?_
            rotate_left
            · (intro w hSw; (try dsimp only at hSw); go_simp); all_goals (with_reducible rfl)
            try simp only [Act.put, List.setIfInBounds_toArray, List.set_cons_zero, List.set_cons_succ]
            refine wpAnyH_take (i := 7) (oi := { dst := some 35, op := _, type := _, pos := _, after := _, guard := _ }) (v := ?_) rfl (by kernel_rfl) (by kernel_rfl) (by kernel_rfl) (fun _ _ _ h => h) (Or.inl ⟨by kernel_rfl, ?_⟩) (by assumption) ?_
            rotate_left
            · (intro w hSw; (try dsimp only at hSw); go_simp); all_goals (with_reducible rfl)
            try simp only [Act.put, List.setIfInBounds_toArray, List.set_cons_zero, List.set_cons_succ]
            refine wpAnyH_take (i := 8) (oi := { dst := some 36, op := _, type := _, pos := _, after := _, guard := _ }) (v := ?_) rfl (by kernel_rfl) (by kernel_rfl) (by kernel_rfl) (fun _ _ _ h => h) (Or.inl ⟨by kernel_rfl, ?_⟩) (by assumption) ?_
            rotate_left
            · (intro w hSw; (try dsimp only at hSw); go_simp); all_goals (with_reducible rfl)
            try simp only [Act.put, List.setIfInBounds_toArray, List.set_cons_zero, List.set_cons_succ]
            refine wpAnyH_take (i := 9) (oi := { dst := some 37, op := _, type := _, pos := _, after := _, guard := _ }) (v := ?_) rfl (by kernel_rfl) (by kernel_rfl) (by kernel_rfl) (fun _ _ _ h => h) (Or.inl ⟨by kernel_rfl, ?_⟩) (by assumption) ?_
            rotate_left
            · (intro w hSw; (try dsimp only at hSw); have k1 := cell_later hSw cS; have k2 := cell_later hSw cC; have k3 := cell_later hSw cK; have k4 := cell_later hSw cA; have k5 := cell_later hSw cVs; have k6 := cell_later hSw cVa; go_simp); all_goals (with_reducible rfl)
            try simp only [Act.put, List.setIfInBounds_toArray, List.set_cons_zero, List.set_cons_succ]
            refine wpAnyH_take (i := 10) (oi := { dst := some 38, op := _, type := _, pos := _, after := _, guard := _ }) (v := ?_) rfl (by kernel_rfl) (by kernel_rfl) (by kernel_rfl) (fun _ _ _ h => h) (Or.inl ⟨by kernel_rfl, ?_⟩) (by assumption) ?_
            rotate_left
            · (intro w hSw; (try dsimp only at hSw); have k1 := cell_later hSw cS; have k2 := cell_later hSw cC; have k3 := cell_later hSw cK; have k4 := cell_later hSw cA; have k5 := cell_later hSw cVs; have k6 := cell_later hSw cVa; go_simp); all_goals (with_reducible rfl)
            try simp only [Act.put, List.setIfInBounds_toArray, List.set_cons_zero, List.set_cons_succ]
            refine wpAnyH_take (i := 11) (oi := { dst := some 39, op := _, type := _, pos := _, after := _, guard := _ }) (v := ?_) rfl (by kernel_rfl) (by kernel_rfl) (by kernel_rfl) (fun _ _ _ h => h) (Or.inl ⟨by kernel_rfl, ?_⟩) (by assumption) ?_
            rotate_left
            · (intro w hSw; (try dsimp only at hSw); go_simp); all_goals (with_reducible rfl)
            try simp only [Act.put, List.setIfInBounds_toArray, List.set_cons_zero, List.set_cons_succ]
            refine wpAnyH_take (i := 12) (oi := { dst := some 40, op := _, type := _, pos := _, after := _, guard := _ }) (v := ?_) rfl (by kernel_rfl) (by kernel_rfl) (by kernel_rfl) (fun _ _ _ h => h) (Or.inl ⟨by kernel_rfl, ?_⟩) (by assumption) ?_
            rotate_left
            · (intro w hSw; (try dsimp only at hSw); go_simp); all_goals (with_reducible rfl)
            try simp only [Act.put, List.setIfInBounds_toArray, List.set_cons_zero, List.set_cons_succ]
            refine wpAnyH_take (i := 13) (oi := { dst := some 41, op := _, type := _, pos := _, after := _, guard := _ }) (v := ?_) rfl (by kernel_rfl) (by kernel_rfl) (by kernel_rfl) (fun _ _ _ h => h) (Or.inl ⟨by kernel_rfl, ?_⟩) (by assumption) ?_
            rotate_left
            · (intro w hSw; (try dsimp only at hSw); go_simp); all_goals (with_reducible rfl)
            try simp only [Act.put, List.setIfInBounds_toArray, List.set_cons_zero, List.set_cons_succ]
            refine wpAnyH_take (i := 14) (oi := { dst := some 42, op := _, type := _, pos := _, after := _, guard := _ }) (v := ?_) rfl (by kernel_rfl) (by kernel_rfl) (by kernel_rfl) (fun _ _ _ h => h) (Or.inl ⟨by kernel_rfl, ?_⟩) (by assumption) ?_
            rotate_left
            · (intro w hSw; (try dsimp only at hSw); go_simp); all_goals (with_reducible rfl)
            try simp only [Act.put, List.setIfInBounds_toArray, List.set_cons_zero, List.set_cons_succ]
            refine wpAnyH_take (i := 15) (oi := { dst := some 43, op := _, type := _, pos := _, after := _, guard := _ }) (v := ?_) rfl (by kernel_rfl) (by kernel_rfl) (by kernel_rfl) (fun _ _ _ h => h) (Or.inl ⟨by kernel_rfl, ?_⟩) (by assumption) ?_
            rotate_left
            · (intro w hSw; (try dsimp only at hSw); have k1 := cell_later hSw cS; have k2 := cell_later hSw cC; have k3 := cell_later hSw cK; have k4 := cell_later hSw cA; have k5 := cell_later hSw cVs; have k6 := cell_later hSw cVa; go_simp); all_goals (with_reducible rfl)
            try simp only [Act.put, List.setIfInBounds_toArray, List.set_cons_zero, List.set_cons_succ]
            refine wpAnyH_take (i := 16) (oi := { dst := some 44, op := _, type := _, pos := _, after := _, guard := _ }) (v := ?_) rfl (by kernel_rfl) (by kernel_rfl) (by kernel_rfl) (fun _ _ _ h => h) (Or.inl ⟨by kernel_rfl, ?_⟩) (by assumption) ?_
            rotate_left
            · (intro w hSw; (try dsimp only at hSw); go_simp); all_goals (with_reducible rfl)
            try simp only [Act.put, List.setIfInBounds_toArray, List.set_cons_zero, List.set_cons_succ]
            refine wpAnyH_take (i := 17) (oi := { dst := some 45, op := _, type := _, pos := _, after := _, guard := _ }) (v := ?_) rfl (by kernel_rfl) (by kernel_rfl) (by kernel_rfl) (fun _ _ _ h => h) (Or.inl ⟨by kernel_rfl, ?_⟩) (by assumption) ?_
            rotate_left
            · (intro w hSw; (try dsimp only at hSw); have k1 := cell_later hSw cS; have k2 := cell_later hSw cC; have k3 := cell_later hSw cK; have k4 := cell_later hSw cA; have k5 := cell_later hSw cVs; have k6 := cell_later hSw cVa; go_simp); all_goals (with_reducible rfl)
            try simp only [Act.put, List.setIfInBounds_toArray, List.set_cons_zero, List.set_cons_succ]
            refine wpAnyH_take (i := 20) (oi := { dst := some 48, op := _, type := _, pos := _, after := _, guard := _ }) (v := ?_) rfl (by kernel_rfl) (by kernel_rfl) (by kernel_rfl) (fun _ _ _ h => h) (Or.inl ⟨by kernel_rfl, ?_⟩) (by assumption) ?_
            rotate_left
            · (intro w hSw; (try dsimp only at hSw); have k1 := cell_later hSw cS; have k2 := cell_later hSw cC; have k3 := cell_later hSw cK; have k4 := cell_later hSw cA; have k5 := cell_later hSw cVs; have k6 := cell_later hSw cVa; go_simp); all_goals (with_reducible rfl)
            try simp only [Act.put, List.setIfInBounds_toArray, List.set_cons_zero, List.set_cons_succ]
            refine wpAnyH_ready (rs := [18]) (by kernel_rfl) (by simp) ?_
            refine (AllReadyH.cons (o := { dst := some 46, op := _, type := _, pos := _, after := _, guard := _ }) rfl (fun K hK => ?_) AllReadyH.nil)
            rw [if_pos (by kernel_rfl)]
            refine wp_load_row 36 _ (by rfl) A.heap.size (by rfl) 36 pc (0, 0) _ (by exact H2.out) Tryd.underlying36 rfl (by rw [hps.out]; kernel_rfl) ?_
            refine hK.out _ _ (by assumption) (fun hS1 => ?_)
            clear hK K
            try simp only [Act.put, List.setIfInBounds_toArray, List.set_cons_zero, List.set_cons_succ]
            refine wpAnyH_ready (rs := [19]) (by kernel_rfl) (by simp) ?_
            refine (AllReadyH.cons (o := { dst := some 47, op := _, type := _, pos := _, after := _, guard := _ }) rfl (fun K hK => ?_) AllReadyH.nil)
            rw [if_pos (by kernel_rfl)]
            refine wp_call_val HFS.out hnS hbS (xs := [.tmp 46]) (vs := [.agg pc]) (by rfl) (by rfl) (by exact HSQ.out _) (by rfl) ?_
            rintro e E1 ⟨rfl, e1⟩
            refine ⟨_, rfl, ?_⟩
            refine hK.out _ _ (hS1.trans e1) (fun hS2 => ?_)
            clear hK K
            try simp only [Act.put, List.setIfInBounds_toArray, List.set_cons_zero, List.set_cons_succ]
            refine wpAnyH_ready (rs := [21]) (by kernel_rfl) (by simp) ?_
            refine (AllReadyH.cons (o := { dst := some 49, op := _, type := _, pos := _, after := _, guard := _ }) rfl (fun K hK => ?_) AllReadyH.nil)
            rw [if_pos (by kernel_rfl)]
            refine wp_call_val HFA.out hnA hbA (xs := [.tmp 47, .tmp 48]) (vs := [.int .i64 (seqOf k p.d), .int .i64 seq]) (by rfl) (by rfl) (by exact HAF.out _ _ _) (by rfl) ?_
            rintro e E2 ⟨rfl, e2⟩
            refine ⟨_, rfl, ?_⟩
            refine hK.out _ _ (hS2.trans (e2.mono hS2.size)) (fun hS3 => ?_)
            clear hK K
            try simp only [Act.put, List.setIfInBounds_toArray, List.set_cons_zero, List.set_cons_succ]
            refine wpAnyH_take (i := 22) (oi := { dst := some 50, op := _, type := _, pos := _, after := _, guard := _ }) (v := ?_) rfl (by kernel_rfl) (by kernel_rfl) (by kernel_rfl) (fun _ _ _ h => h) (Or.inl ⟨by kernel_rfl, ?_⟩) (by assumption) ?_
            rotate_left
            · (intro w hSw; (try dsimp only at hSw); go_simp); all_goals (with_reducible rfl)
            try simp only [Act.put, List.setIfInBounds_toArray, List.set_cons_zero, List.set_cons_succ]
            refine wpAnyH_take (i := 23) (oi := { dst := some 17, op := _, type := _, pos := _, after := _, guard := _ }) (v := ?_) rfl (by kernel_rfl) (by kernel_rfl) (by kernel_rfl) (fun _ _ _ h => h) (Or.inl ⟨by kernel_rfl, ?_⟩) (by assumption) ?_
            rotate_left
            · (intro w hSw; (try dsimp only at hSw); go_simp); all_goals (with_reducible rfl)
            try simp only [Act.put, List.setIfInBounds_toArray, List.set_cons_zero, List.set_cons_succ]
            refine wpAnyH_done (by kernel_rfl) ?_ _
            refine hK0 _ _ ?_
            exact ⟨_, _, _, _, _, _, _, _, _, _, _, _, _, _, _, _, _, _, _, _, _, _, _, rfl, hS3⟩

          · have hkb : (p.d.key == after) = false := by simpa using hka
            obtain rfl : sm = false := by rw [← hsm, hkb, Bool.and_false]; rfl
            refine drawn_inRound_k (S := fun B : World => Below A₂.heap.size A₂ B) _ (by kernel_rfl) (by kernel_rfl) (Below.refl _ _).drew (fun hS0 K0 hK0 => ?_)
            refine wpAnyH_take (i := 0) (oi := { dst := some 28, op := _, type := _, pos := _, after := _, guard := _ }) (v := ?_) rfl (by kernel_rfl) (by kernel_rfl) (by kernel_rfl) (fun _ _ _ h => h) (Or.inl ⟨by kernel_rfl, ?_⟩) (by assumption) ?_
            rotate_left
            · (intro w hSw; (try dsimp only at hSw); have k1 := cell_later hSw cS; have k2 := cell_later hSw cC; have k3 := cell_later hSw cK; have k4 := cell_later hSw cA; have k5 := cell_later hSw cVs; have k6 := cell_later hSw cVa; go_simp); all_goals (with_reducible rfl)
            try simp only [Act.put, List.setIfInBounds_toArray, List.set_cons_zero, List.set_cons_succ]
            refine wpAnyH_take (i := 1) (oi := { dst := some 29, op := _, type := _, pos := _, after := _, guard := _ }) (v := ?_) rfl (by kernel_rfl) (by kernel_rfl) (by kernel_rfl) (fun _ _ _ h => h) (Or.inl ⟨by kernel_rfl, ?_⟩) (by assumption) ?_
            rotate_left
            · (intro w hSw; (try dsimp only at hSw); go_simp); all_goals (with_reducible rfl)
            try simp only [Act.put, List.setIfInBounds_toArray, List.set_cons_zero, List.set_cons_succ]
            refine wpAnyH_take (i := 2) (oi := { dst := some 30, op := _, type := _, pos := _, after := _, guard := _ }) (v := ?_) rfl (by kernel_rfl) (by kernel_rfl) (by kernel_rfl) (fun _ _ _ h => h) (Or.inl ⟨by kernel_rfl, ?_⟩) (by assumption) ?_
            rotate_left
            · (intro w hSw; (try dsimp only at hSw); go_simp); all_goals (with_reducible rfl)
            try simp only [Act.put, List.setIfInBounds_toArray, List.set_cons_zero, List.set_cons_succ]
            refine wpAnyH_take (i := 3) (oi := { dst := some 31, op := _, type := _, pos := _, after := _, guard := _ }) (v := ?_) rfl (by kernel_rfl) (by kernel_rfl) (by kernel_rfl) (fun _ _ _ h => h) (Or.inl ⟨by kernel_rfl, ?_⟩) (by assumption) ?_
            rotate_left
            · (intro w hSw; (try dsimp only at hSw); go_simp); all_goals (with_reducible rfl)
            try simp only [Act.put, List.setIfInBounds_toArray, List.set_cons_zero, List.set_cons_succ]
            refine wpAnyH_take (i := 4) (oi := { dst := some 32, op := _, type := _, pos := _, after := _, guard := _ }) (v := ?_) rfl (by kernel_rfl) (by kernel_rfl) (by kernel_rfl) (fun _ _ _ h => h) (Or.inl ⟨by kernel_rfl, ?_⟩) (by assumption) ?_
            rotate_left
            · (intro w hSw; (try dsimp only at hSw); have k1 := cell_later hSw cS; have k2 := cell_later hSw cC; have k3 := cell_later hSw cK; have k4 := cell_later hSw cA; have k5 := cell_later hSw cVs; have k6 := cell_later hSw cVa; go_simp); all_goals (with_reducible rfl)
            try simp only [Act.put, List.setIfInBounds_toArray, List.set_cons_zero, List.set_cons_succ]
            refine wpAnyH_take (i := 5) (oi := { dst := some 33, op := _, type := _, pos := _, after := _, guard := _ }) (v := ?_) rfl (by kernel_rfl) (by kernel_rfl) (by kernel_rfl) (fun _ _ _ h => h) (Or.inl ⟨by kernel_rfl, ?_⟩) (by assumption) ?_
            rotate_left
            · (intro w hSw; (try dsimp only at hSw); go_simp); all_goals (with_reducible rfl)
            try simp only [Act.put, List.setIfInBounds_toArray, List.set_cons_zero, List.set_cons_succ]
            refine wpAnyH_take (i := 6) (oi := { dst := some 34, op := _, type := _, pos := _, after := _, guard := _ }) (v := ?_) rfl (by kernel_rfl) (by kernel_rfl) (by kernel_rfl) (fun _ _ _ h => h) (Or.inl ⟨by kernel_rfl, ?_⟩) (by assumption) ?_
            rotate_left
            · (intro w hSw; (try dsimp only at hSw); go_simp); all_goals (with_reducible rfl)
            try simp only [Act.put, List.setIfInBounds_toArray, List.set_cons_zero, List.set_cons_succ]
            refine wpAnyH_take (i := 7) (oi := { dst := some 35, op := _, type := _, pos := _, after := _, guard := _ }) (v := ?_) rfl (by kernel_rfl) (by kernel_rfl) (by kernel_rfl) (fun _ _ _ h => h) (Or.inl ⟨by kernel_rfl, ?_⟩) (by assumption) ?_
            rotate_left
            · (intro w hSw; (try dsimp only at hSw); go_simp); all_goals (with_reducible rfl)
            try simp only [Act.put, List.setIfInBounds_toArray, List.set_cons_zero, List.set_cons_succ]
            refine wpAnyH_take (i := 8) (oi := { dst := some 36, op := _, type := _, pos := _, after := _, guard := _ }) (v := ?_) rfl (by kernel_rfl) (by kernel_rfl) (by kernel_rfl) (fun _ _ _ h => h) (Or.inl ⟨by kernel_rfl, ?_⟩) (by assumption) ?_
            rotate_left
            · (intro w hSw; (try dsimp only at hSw); go_simp); all_goals (with_reducible rfl)
            try simp only [Act.put, List.setIfInBounds_toArray, List.set_cons_zero, List.set_cons_succ]
            refine wpAnyH_take (i := 9) (oi := { dst := some 37, op := _, type := _, pos := _, after := _, guard := _ }) (v := ?_) rfl (by kernel_rfl) (by kernel_rfl) (by kernel_rfl) (fun _ _ _ h => h) (Or.inl ⟨by kernel_rfl, ?_⟩) (by assumption) ?_
            rotate_left
            · (intro w hSw; (try dsimp only at hSw); have k1 := cell_later hSw cS; have k2 := cell_later hSw cC; have k3 := cell_later hSw cK; have k4 := cell_later hSw cA; have k5 := cell_later hSw cVs; have k6 := cell_later hSw cVa; go_simp); all_goals (with_reducible rfl)
            try simp only [Act.put, List.setIfInBounds_toArray, List.set_cons_zero, List.set_cons_succ]
            refine wpAnyH_take (i := 10) (oi := { dst := some 38, op := _, type := _, pos := _, after := _, guard := _ }) (v := ?_) rfl (by kernel_rfl) (by kernel_rfl) (by kernel_rfl) (fun _ _ _ h => h) (Or.inl ⟨by kernel_rfl, ?_⟩) (by assumption) ?_
            rotate_left
            · (intro w hSw; (try dsimp only at hSw); have k1 := cell_later hSw cS; have k2 := cell_later hSw cC; have k3 := cell_later hSw cK; have k4 := cell_later hSw cA; have k5 := cell_later hSw cVs; have k6 := cell_later hSw cVa; go_simp); all_goals (with_reducible rfl)
            try simp only [Act.put, List.setIfInBounds_toArray, List.set_cons_zero, List.set_cons_succ]
            refine wpAnyH_take (i := 11) (oi := { dst := some 39, op := _, type := _, pos := _, after := _, guard := _ }) (v := ?_) rfl (by kernel_rfl) (by kernel_rfl) (by kernel_rfl) (fun _ _ _ h => h) (Or.inl ⟨by kernel_rfl, ?_⟩) (by assumption) ?_
            rotate_left
            · (intro w hSw; (try dsimp only at hSw); go_simp); all_goals (with_reducible rfl)
            try simp only [Act.put, List.setIfInBounds_toArray, List.set_cons_zero, List.set_cons_succ]
            refine wpAnyH_take (i := 12) (oi := { dst := some 40, op := _, type := _, pos := _, after := _, guard := _ }) (v := ?_) rfl (by kernel_rfl) (by kernel_rfl) (by kernel_rfl) (fun _ _ _ h => h) (Or.inl ⟨by kernel_rfl, ?_⟩) (by assumption) ?_
            rotate_left
            · (intro w hSw; (try dsimp only at hSw); go_simp); all_goals (with_reducible rfl)
            try simp only [Act.put, List.setIfInBounds_toArray, List.set_cons_zero, List.set_cons_succ]
            refine wpAnyH_take (i := 13) (oi := { dst := some 41, op := _, type := _, pos := _, after := _, guard := _ }) (v := ?_) rfl (by kernel_rfl) (by kernel_rfl) (by kernel_rfl) (fun _ _ _ h => h) (Or.inl ⟨by kernel_rfl, ?_⟩) (by assumption) ?_
            rotate_left
            · (intro w hSw; (try dsimp only at hSw); go_simp); all_goals (with_reducible rfl)
            try simp only [Act.put, List.setIfInBounds_toArray, List.set_cons_zero, List.set_cons_succ]
            refine wpAnyH_take (i := 14) (oi := { dst := some 42, op := _, type := _, pos := _, after := _, guard := _ }) (v := undef) rfl (by kernel_rfl) (by kernel_rfl) (by kernel_rfl) (fun _ _ _ h => h) (Or.inr ⟨by kernel_rfl, rfl⟩) (by assumption) ?_
            try simp only [Act.put, List.setIfInBounds_toArray, List.set_cons_zero, List.set_cons_succ]
            refine wpAnyH_take (i := 15) (oi := { dst := some 43, op := _, type := _, pos := _, after := _, guard := _ }) (v := undef) rfl (by kernel_rfl) (by kernel_rfl) (by kernel_rfl) (fun _ _ _ h => h) (Or.inr ⟨by kernel_rfl, rfl⟩) (by assumption) ?_
            try simp only [Act.put, List.setIfInBounds_toArray, List.set_cons_zero, List.set_cons_succ]
            refine wpAnyH_take (i := 16) (oi := { dst := some 44, op := _, type := _, pos := _, after := _, guard := _ }) (v := undef) rfl (by kernel_rfl) (by kernel_rfl) (by kernel_rfl) (fun _ _ _ h => h) (Or.inr ⟨by kernel_rfl, rfl⟩) (by assumption) ?_
            try simp only [Act.put, List.setIfInBounds_toArray, List.set_cons_zero, List.set_cons_succ]
            refine wpAnyH_take (i := 17) (oi := { dst := some 45, op := _, type := _, pos := _, after := _, guard := _ }) (v := undef) rfl (by kernel_rfl) (by kernel_rfl) (by kernel_rfl) (fun _ _ _ h => h) (Or.inr ⟨by kernel_rfl, rfl⟩) (by assumption) ?_
            try simp only [Act.put, List.setIfInBounds_toArray, List.set_cons_zero, List.set_cons_succ]
            refine wpAnyH_take (i := 18) (oi := { dst := some 46, op := _, type := _, pos := _, after := _, guard := _ }) (v := undef) rfl (by kernel_rfl) (by kernel_rfl) (by kernel_rfl) (fun _ _ _ h => h) (Or.inr ⟨by kernel_rfl, rfl⟩) (by assumption) ?_
            try simp only [Act.put, List.setIfInBounds_toArray, List.set_cons_zero, List.set_cons_succ]
            refine wpAnyH_take (i := 19) (oi := { dst := some 47, op := _, type := _, pos := _, after := _, guard := _ }) (v := undef) rfl (by kernel_rfl) (by kernel_rfl) (by kernel_rfl) (fun _ _ _ h => h) (Or.inr ⟨by kernel_rfl, rfl⟩) (by assumption) ?_
            try simp only [Act.put, List.setIfInBounds_toArray, List.set_cons_zero, List.set_cons_succ]
            refine wpAnyH_take (i := 20) (oi := { dst := some 48, op := _, type := _, pos := _, after := _, guard := _ }) (v := undef) rfl (by kernel_rfl) (by kernel_rfl) (by kernel_rfl) (fun _ _ _ h => h) (Or.inr ⟨by kernel_rfl, rfl⟩) (by assumption) ?_
            try simp only [Act.put, List.setIfInBounds_toArray, List.set_cons_zero, List.set_cons_succ]
            refine wpAnyH_take (i := 21) (oi := { dst := some 49, op := _, type := _, pos := _, after := _, guard := _ }) (v := undef) rfl (by kernel_rfl) (by kernel_rfl) (by kernel_rfl) (fun _ _ _ h => h) (Or.inr ⟨by kernel_rfl, rfl⟩) (by assumption) ?_
            try simp only [Act.put, List.setIfInBounds_toArray, List.set_cons_zero, List.set_cons_succ]
            refine wpAnyH_take (i := 22) (oi := { dst := some 50, op := _, type := _, pos := _, after := _, guard := _ }) (v := ?_) rfl (by kernel_rfl) (by kernel_rfl) (by kernel_rfl) (fun _ _ _ h => h) (Or.inl ⟨by kernel_rfl, ?_⟩) (by assumption) ?_
            rotate_left
            · (intro w hSw; (try dsimp only at hSw); go_simp); all_goals (with_reducible rfl)
            try simp only [Act.put, List.setIfInBounds_toArray, List.set_cons_zero, List.set_cons_succ]
            refine wpAnyH_take (i := 23) (oi := { dst := some 17, op := _, type := _, pos := _, after := _, guard := _ }) (v := ?_) rfl (by kernel_rfl) (by kernel_rfl) (by kernel_rfl) (fun _ _ _ h => h) (Or.inl ⟨by kernel_rfl, ?_⟩) (by assumption) ?_
            rotate_left
            · (intro w hSw; (try dsimp only at hSw); go_simp); all_goals (with_reducible rfl)
            try simp only [Act.put, List.setIfInBounds_toArray, List.set_cons_zero, List.set_cons_succ]
            refine wpAnyH_done (by kernel_rfl) ?_ _
            refine hK0 _ _ ?_
            exact ⟨_, _, _, _, _, _, _, _, _, _, _, _, _, _, _, _, _, _, _, _, _, _, _, rfl, hS0⟩

      · have hs1 : decide (0 < seq) = false := by simpa using hs0
        obtain rfl : sm = false := by rw [← hsm, hs1]; rfl
        refine drawn_inRound_k (S := fun B : World => Below A₂.heap.size A₂ B) _ (by kernel_rfl) (by kernel_rfl) (Below.refl _ _).drew (fun hS0 K0 hK0 => ?_)
        refine wpAnyH_take (i := 0) (oi := { dst := some 28, op := _, type := _, pos := _, after := _, guard := _ }) (v := ?_) rfl (by kernel_rfl) (by kernel_rfl) (by kernel_rfl) (fun _ _ _ h => h) (Or.inl ⟨by kernel_rfl, ?_⟩) (by assumption) ?_
        rotate_left
        · (intro w hSw; (try dsimp only at hSw); have k1 := cell_later hSw cS; have k2 := cell_later hSw cC; have k3 := cell_later hSw cK; have k4 := cell_later hSw cA; have k5 := cell_later hSw cVs; have k6 := cell_later hSw cVa; go_simp); all_goals (with_reducible rfl)
        try simp only [Act.put, List.setIfInBounds_toArray, List.set_cons_zero, List.set_cons_succ]
        refine wpAnyH_take (i := 1) (oi := { dst := some 29, op := _, type := _, pos := _, after := _, guard := _ }) (v := ?_) rfl (by kernel_rfl) (by kernel_rfl) (by kernel_rfl) (fun _ _ _ h => h) (Or.inl ⟨by kernel_rfl, ?_⟩) (by assumption) ?_
        rotate_left
        · (intro w hSw; (try dsimp only at hSw); go_simp); all_goals (with_reducible rfl)
        try simp only [Act.put, List.setIfInBounds_toArray, List.set_cons_zero, List.set_cons_succ]
        refine wpAnyH_take (i := 2) (oi := { dst := some 30, op := _, type := _, pos := _, after := _, guard := _ }) (v := ?_) rfl (by kernel_rfl) (by kernel_rfl) (by kernel_rfl) (fun _ _ _ h => h) (Or.inl ⟨by kernel_rfl, ?_⟩) (by assumption) ?_
        rotate_left
        · (intro w hSw; (try dsimp only at hSw); go_simp); all_goals (with_reducible rfl)
        try simp only [Act.put, List.setIfInBounds_toArray, List.set_cons_zero, List.set_cons_succ]
        refine wpAnyH_take (i := 3) (oi := { dst := some 31, op := _, type := _, pos := _, after := _, guard := _ }) (v := undef) rfl (by kernel_rfl) (by kernel_rfl) (by kernel_rfl) (fun _ _ _ h => h) (Or.inr ⟨by kernel_rfl, rfl⟩) (by assumption) ?_
        try simp only [Act.put, List.setIfInBounds_toArray, List.set_cons_zero, List.set_cons_succ]
        refine wpAnyH_take (i := 4) (oi := { dst := some 32, op := _, type := _, pos := _, after := _, guard := _ }) (v := undef) rfl (by kernel_rfl) (by kernel_rfl) (by kernel_rfl) (fun _ _ _ h => h) (Or.inr ⟨by kernel_rfl, rfl⟩) (by assumption) ?_
        try simp only [Act.put, List.setIfInBounds_toArray, List.set_cons_zero, List.set_cons_succ]
        refine wpAnyH_take (i := 5) (oi := { dst := some 33, op := _, type := _, pos := _, after := _, guard := _ }) (v := undef) rfl (by kernel_rfl) (by kernel_rfl) (by kernel_rfl) (fun _ _ _ h => h) (Or.inr ⟨by kernel_rfl, rfl⟩) (by assumption) ?_
        try simp only [Act.put, List.setIfInBounds_toArray, List.set_cons_zero, List.set_cons_succ]
        refine wpAnyH_take (i := 6) (oi := { dst := some 34, op := _, type := _, pos := _, after := _, guard := _ }) (v := ?_) rfl (by kernel_rfl) (by kernel_rfl) (by kernel_rfl) (fun _ _ _ h => h) (Or.inl ⟨by kernel_rfl, ?_⟩) (by assumption) ?_
        rotate_left
        · (intro w hSw; (try dsimp only at hSw); go_simp); all_goals (with_reducible rfl)
        try simp only [Act.put, List.setIfInBounds_toArray, List.set_cons_zero, List.set_cons_succ]
        refine wpAnyH_take (i := 7) (oi := { dst := some 35, op := _, type := _, pos := _, after := _, guard := _ }) (v := ?_) rfl (by kernel_rfl) (by kernel_rfl) (by kernel_rfl) (fun _ _ _ h => h) (Or.inl ⟨by kernel_rfl, ?_⟩) (by assumption) ?_
        rotate_left
        · (intro w hSw; (try dsimp only at hSw); go_simp); all_goals (with_reducible rfl)
        try simp only [Act.put, List.setIfInBounds_toArray, List.set_cons_zero, List.set_cons_succ]
        refine wpAnyH_take (i := 8) (oi := { dst := some 36, op := _, type := _, pos := _, after := _, guard := _ }) (v := undef) rfl (by kernel_rfl) (by kernel_rfl) (by kernel_rfl) (fun _ _ _ h => h) (Or.inr ⟨by kernel_rfl, rfl⟩) (by assumption) ?_
        try simp only [Act.put, List.setIfInBounds_toArray, List.set_cons_zero, List.set_cons_succ]
        refine wpAnyH_take (i := 9) (oi := { dst := some 37, op := _, type := _, pos := _, after := _, guard := _ }) (v := undef) rfl (by kernel_rfl) (by kernel_rfl) (by kernel_rfl) (fun _ _ _ h => h) (Or.inr ⟨by kernel_rfl, rfl⟩) (by assumption) ?_
        try simp only [Act.put, List.setIfInBounds_toArray, List.set_cons_zero, List.set_cons_succ]
        refine wpAnyH_take (i := 10) (oi := { dst := some 38, op := _, type := _, pos := _, after := _, guard := _ }) (v := undef) rfl (by kernel_rfl) (by kernel_rfl) (by kernel_rfl) (fun _ _ _ h => h) (Or.inr ⟨by kernel_rfl, rfl⟩) (by assumption) ?_
        try simp only [Act.put, List.setIfInBounds_toArray, List.set_cons_zero, List.set_cons_succ]
        refine wpAnyH_take (i := 11) (oi := { dst := some 39, op := _, type := _, pos := _, after := _, guard := _ }) (v := undef) rfl (by kernel_rfl) (by kernel_rfl) (by kernel_rfl) (fun _ _ _ h => h) (Or.inr ⟨by kernel_rfl, rfl⟩) (by assumption) ?_
        try simp only [Act.put, List.setIfInBounds_toArray, List.set_cons_zero, List.set_cons_succ]
        refine wpAnyH_take (i := 12) (oi := { dst := some 40, op := _, type := _, pos := _, after := _, guard := _ }) (v := ?_) rfl (by kernel_rfl) (by kernel_rfl) (by kernel_rfl) (fun _ _ _ h => h) (Or.inl ⟨by kernel_rfl, ?_⟩) (by assumption) ?_
        rotate_left
        · (intro w hSw; (try dsimp only at hSw); go_simp); all_goals (with_reducible rfl)
        try simp only [Act.put, List.setIfInBounds_toArray, List.set_cons_zero, List.set_cons_succ]
        refine wpAnyH_take (i := 13) (oi := { dst := some 41, op := _, type := _, pos := _, after := _, guard := _ }) (v := ?_) rfl (by kernel_rfl) (by kernel_rfl) (by kernel_rfl) (fun _ _ _ h => h) (Or.inl ⟨by kernel_rfl, ?_⟩) (by assumption) ?_
        rotate_left
        · (intro w hSw; (try dsimp only at hSw); go_simp); all_goals (with_reducible rfl)
        try simp only [Act.put, List.setIfInBounds_toArray, List.set_cons_zero, List.set_cons_succ]
        refine wpAnyH_take (i := 14) (oi := { dst := some 42, op := _, type := _, pos := _, after := _, guard := _ }) (v := undef) rfl (by kernel_rfl) (by kernel_rfl) (by kernel_rfl) (fun _ _ _ h => h) (Or.inr ⟨by kernel_rfl, rfl⟩) (by assumption) ?_
        try simp only [Act.put, List.setIfInBounds_toArray, List.set_cons_zero, List.set_cons_succ]
        refine wpAnyH_take (i := 15) (oi := { dst := some 43, op := _, type := _, pos := _, after := _, guard := _ }) (v := undef) rfl (by kernel_rfl) (by kernel_rfl) (by kernel_rfl) (fun _ _ _ h => h) (Or.inr ⟨by kernel_rfl, rfl⟩) (by assumption) ?_
        try simp only [Act.put, List.setIfInBounds_toArray, List.set_cons_zero, List.set_cons_succ]
        refine wpAnyH_take (i := 16) (oi := { dst := some 44, op := _, type := _, pos := _, after := _, guard := _ }) (v := undef) rfl (by kernel_rfl) (by kernel_rfl) (by kernel_rfl) (fun _ _ _ h => h) (Or.inr ⟨by kernel_rfl, rfl⟩) (by assumption) ?_
        try simp only [Act.put, List.setIfInBounds_toArray, List.set_cons_zero, List.set_cons_succ]
        refine wpAnyH_take (i := 17) (oi := { dst := some 45, op := _, type := _, pos := _, after := _, guard := _ }) (v := undef) rfl (by kernel_rfl) (by kernel_rfl) (by kernel_rfl) (fun _ _ _ h => h) (Or.inr ⟨by kernel_rfl, rfl⟩) (by assumption) ?_
        try simp only [Act.put, List.setIfInBounds_toArray, List.set_cons_zero, List.set_cons_succ]
        refine wpAnyH_take (i := 18) (oi := { dst := some 46, op := _, type := _, pos := _, after := _, guard := _ }) (v := undef) rfl (by kernel_rfl) (by kernel_rfl) (by kernel_rfl) (fun _ _ _ h => h) (Or.inr ⟨by kernel_rfl, rfl⟩) (by assumption) ?_
        try simp only [Act.put, List.setIfInBounds_toArray, List.set_cons_zero, List.set_cons_succ]
        refine wpAnyH_take (i := 19) (oi := { dst := some 47, op := _, type := _, pos := _, after := _, guard := _ }) (v := undef) rfl (by kernel_rfl) (by kernel_rfl) (by kernel_rfl) (fun _ _ _ h => h) (Or.inr ⟨by kernel_rfl, rfl⟩) (by assumption) ?_
        try simp only [Act.put, List.setIfInBounds_toArray, List.set_cons_zero, List.set_cons_succ]
        refine wpAnyH_take (i := 20) (oi := { dst := some 48, op := _, type := _, pos := _, after := _, guard := _ }) (v := undef) rfl (by kernel_rfl) (by kernel_rfl) (by kernel_rfl) (fun _ _ _ h => h) (Or.inr ⟨by kernel_rfl, rfl⟩) (by assumption) ?_
        try simp only [Act.put, List.setIfInBounds_toArray, List.set_cons_zero, List.set_cons_succ]
        refine wpAnyH_take (i := 21) (oi := { dst := some 49, op := _, type := _, pos := _, after := _, guard := _ }) (v := undef) rfl (by kernel_rfl) (by kernel_rfl) (by kernel_rfl) (fun _ _ _ h => h) (Or.inr ⟨by kernel_rfl, rfl⟩) (by assumption) ?_
        try simp only [Act.put, List.setIfInBounds_toArray, List.set_cons_zero, List.set_cons_succ]
        refine wpAnyH_take (i := 22) (oi := { dst := some 50, op := _, type := _, pos := _, after := _, guard := _ }) (v := ?_) rfl (by kernel_rfl) (by kernel_rfl) (by kernel_rfl) (fun _ _ _ h => h) (Or.inl ⟨by kernel_rfl, ?_⟩) (by assumption) ?_
        rotate_left
        · (intro w hSw; (try dsimp only at hSw); go_simp); all_goals (with_reducible rfl)
        try simp only [Act.put, List.setIfInBounds_toArray, List.set_cons_zero, List.set_cons_succ]
        refine wpAnyH_take (i := 23) (oi := { dst := some 17, op := _, type := _, pos := _, after := _, guard := _ }) (v := ?_) rfl (by kernel_rfl) (by kernel_rfl) (by kernel_rfl) (fun _ _ _ h => h) (Or.inl ⟨by kernel_rfl, ?_⟩) (by assumption) ?_
        rotate_left
        · (intro w hSw; (try dsimp only at hSw); go_simp); all_goals (with_reducible rfl)
        try simp only [Act.put, List.setIfInBounds_toArray, List.set_cons_zero, List.set_cons_succ]
        refine wpAnyH_done (by kernel_rfl) ?_ _
        refine hK0 _ _ ?_
        exact ⟨_, _, _, _, _, _, _, _, _, _, _, _, _, _, _, _, _, _, _, _, _, _, _, rfl, hS0⟩

    case rest =>
      rintro a5 A5 ⟨u28, u29, u30, u31, u32, u33, u34, u35, u36, u37, u38, u39, u40, u41, u42, u43, u44, u45, u46, u47, u48, u49, u50, rfl, hB5⟩
      have B5 := Lib.hid hB5
      have z5 := hB5.size
      have cA5 := cell_later hB5 cA
      have cK5 := cell_later hB5 cK
      have cM5 := cell_later hB5 cM
      rw [mostN_eq] at cM5
      obtain ⟨vr, qs, hpage, hrows, hqs⟩ := I2.out.row
      obtain ⟨ar, cr, rfl⟩ := own_form hrows.own
      have hpage5 : Hid (A5.heap[w.heap.size + 5]? = some (.cells #[.slice ar qs.length cr, .bool false, .string ⟨#[]⟩, .int .i64 0] 26 (0, 0))) := (hB5.block _ (Array.getElem?_eq_some_iff.1 hpage).1).trans hpage
      have HROWS := Lib.hid (hrows.later hB5)
      have HQS := Lib.hid hqs
      have cP5 : A5.cell? ⟨w.heap.size + 5, 0, none⟩ = some (.slice ar qs.length cr) := cell_of_heap hpage5.out
      have cP6 : A5.cell? ⟨w.heap.size + 5, 1, none⟩ = some (.bool false) := cell_of_heap hpage5.out
      have hfr := fun o => free_of_heap (x := o) hpage5.out
      have HSM := Lib.hid hsm
      have H2L : Hid (A₂.heap[A.heap.size]? = some (.cells p.cells.toArray 36 (0, 0))) := by show _ = _; rw [H2.out, HPC.out]
      have HP5 : Hid (RowOwn A5 (D + 1) p) := O2.out.later B5.out
      have hqlen : qs.length = (pre'.filter (beyond k after seq)).length := by rw [← hqs, List.length_map]
      have HQL := Lib.hid hqlen
      have HQM := Lib.hid I2.out.len
      clear hqlen
      have hm1 := mostN_le most
      clear hB5 cA cK cM hpage hrows hqs cS cC cVs cVa hsm
      generalize mostN most = M at *
      have hbey : beyond k after seq p.d = (!(Op.bytesLess p.d.key after || p.d.key == after) || sm) := by rw [← HSM.out]; rfl
      have GA5 : Hid (Still w.heap.size (w.heap.size + 6) A A5 ∧ (wr.heap.size + 2 ≤ D → D < A.heap.size → A5.heap[D]? = A.heap[D]?)) :=
        ⟨((Still.of_below B1.out).trans ⟨G2.out.size, fun b hb hl => G2.out.block b hl (fun e => by injection e with e; omega)⟩).trans (Still.of_below B5.out),
         fun h1 h2 => (B5.out.block D (by omega)).trans ((G2.out.block D (by omega) (fun e => by injection e with e; omega)).trans (B1.out.block D h2))⟩
      have GB5 : Hid (A5.heap[wr.heap.size]? = A₂.heap[wr.heap.size]? ∧ A5.heap[wr.heap.size + 1]? = A₂.heap[wr.heap.size + 1]?) := ⟨B5.out.block _ (by omega), B5.out.block _ (by omega)⟩
      have I5 : Hid (PgAt wr (w.heap.size + 5) k after seq M D pre' A5) := I2.out.grown (row := none) (by omega) ⟨B5.out.os, B5.out.tape, B5.out.output, B5.out.size, fun k hk _ => B5.out.block k hk⟩ (fun r hr => by cases hr)
      cases sm with
      | true =>
        have hb1 : beyond k after seq p.d = true := by rw [hbey, Bool.or_true]
        have hka : p.d.key = after := by
          have := HSM.out
          simp only [Bool.and_eq_true, beq_iff_eq] at this
          exact this.1.2
        have hl1 : Op.bytesLess after after = false := less_irrefl after
        rw [hka] at cK5
        clear hka
        have HB1 := Lib.hid hb1
        clear hb1 hbey
        refine wpIn_seq (wpIn_seq (region_inRound_k _ (by kernel_rfl) fun K hK => ?_))
        go_wp2_with fail
        refine wpIn_cond_false (by rfl) (wpIn_skip ?_)
        refine wpIn_seq (wpIn_seq (region_inRound_k _ (by kernel_rfl) fun K1 hK1 => ?_))
        by_cases hfull : qs.length = M
        · have hfz : decide (((qs.length : Nat) : Int) = (M : Int)) = true := by simp; omega
          have hfz2 : ((qs.length : Nat) : Int) = (M : Int) := by omega
          go_wp2_with fail
          refine wpIn_cond_true (by simp [Act.eval, *]) ?_
          refine wpIn_seq (region_inRound_k _ (by kernel_rfl) fun K2 hK2 => ?_)
          go_wp2_with fail
          refine wpIn_exit ?_
          simp only [Exit.then, Exit.inBlock]
          have hMd : (decide ((0 : Int) < (M : Int))) = decide (0 < M) := by simp
          refine ⟨⟨(Below.heap_setCell _ _ _ _ (by simp only; omega)).trans GB5.out.1, (Below.heap_setCell _ _ _ _ (by simp only; omega)).trans GB5.out.2⟩, rfl, hD, ?_, ?_, ?_⟩
          · exact ⟨I5.out.chg.os, I5.out.chg.tape, I5.out.chg.output, by have := I5.out.chg.size; simpa [World.setCell] using this, fun b h1 h2 => (Below.heap_setCell _ _ _ _ h2).trans (I5.out.chg.block b h1 h2)⟩
          · refine ⟨.slice ar qs.length cr, qs, ?_, HROWS.out.grown (set_grown _ _ _) (fun r e => by injection e with e; simp only at e; omega), ?_⟩
            · rw [heap_set hpage5.out]
              simp
            · rw [List.filter_append, ← HQS.out, List.take_append_of_le_length (by rw [List.length_map]; omega), List.take_of_length_le (by rw [List.length_map]; omega)]
          · rw [List.filter_append, List.length_append, ← HQL.out, hfull]
            simp [HB1.out]
        · have hfz : decide (((qs.length : Nat) : Int) = (M : Int)) = false := by simp; omega
          have hfz2 : ¬ ((qs.length : Nat) : Int) = (M : Int) := by omega
          go_wp2_with fail
          refine wpIn_cond_false (by simp [Act.eval, *]) (wpIn_skip ?_)
          refine region_inRound_k _ (by kernel_rfl) fun K2 hK2 => ?_
          have hqm := HQM.out
          rw [← HQL.out] at hqm
          go_wp2_with (first
            | (refine wpList_load_row (by rfl) 36 _ (by rfl) A.heap.size (by rfl) 36 #[.string ⟨p.d.key.toArray⟩, .bool p.d.common, .bool p.d.latest, .int .i64 p.d.ver.seq, .bool p.d.ver.null, .bool p.d.ver.marker, .string ⟨p.d.ver.etag.toArray⟩, .string ⟨p.d.ver.type.toArray⟩, .int .i64 p.d.ver.size, .int .i64 p.d.ver.when_, p.vb, .int .i64 p.d.upl.seq, .string ⟨p.d.upl.bucket.toArray⟩, .string ⟨p.d.upl.key.toArray⟩, .string ⟨p.d.upl.type.toArray⟩, .string ⟨p.d.upl.owner.toArray⟩, .int .i64 p.d.upl.when_, p.vp] (0, 0) _ (by exact (B5.out.block _ (by omega)).trans H2L.out) Tryd.underlying36 rfl (by kernel_rfl) ?_)
            | (at_builtin; refine wpList_append_own _ rfl _ _ 22 rfl (D + 1) 36 i0 _ 18 216 Tryd.underlying22 hi0 hz0 hz1 hz2 rfl (by decide) _ _ _ rfl (own_later HROWS.out.own (below_alloc (Below.refl _ _) (Nat.le_refl _) _)) ⟨A5.heap.size, 0, none⟩ 1 1 p.cells rfl rfl ?c1 ?c2 ?c3 ?c4 ?c5 ?_))
          case c1 => exact fun j u hj => cells_new _ _ _ _ _ hj
          case c2 => exact HP5.out.one_mem
          case c3 => simp only [maxLen]; omega
          case c4 => omega
          case c5 => simp; omega
          intro v' w7 hown' hgrow _
          have hvo : ∀ g, (Value.slice ar qs.length cr).ownBlock = some g → D + 1 ≤ g ∧ g < A5.heap.size := fun g hg => HROWS.out.own.lt g hg
          obtain ⟨g7, cap7, rfl, hg7, hg7l⟩ := hown'.form (by omega)
          have H7 : ∀ b, b < D + 1 → b < A5.heap.size → w7.heap[b]? = A5.heap[b]? := fun b h1 h2 => (hgrow.block b (by simp; omega) (fun e => by have := (hvo b e.symm).1; omega)).trans (Below.heap_alloc _ _ _ h2)
          have hpage7 : Hid (w7.heap[w.heap.size + 5]? = some (.cells #[.slice ar qs.length cr, .bool false, .string ⟨#[]⟩, .int .i64 0] 26 (0, 0))) := (H7 _ (by omega) (by omega)).trans hpage5.out
          have cP7 : w7.cell? ⟨w.heap.size + 5, 0, none⟩ = some (.slice ar qs.length cr) := cell_of_heap hpage7.out
          have fP7 : w7.frozen? ⟨w.heap.size + 5, 0, none⟩ = false := free_of_heap hpage7.out
          have HOWN7 := Lib.hid hown'
          have HGR7 := Lib.hid hgrow
          have H7' := Lib.hid H7
          have hz7 : A5.heap.size + 1 ≤ w7.heap.size := by have := hgrow.size; simpa using this
          clear hown' hgrow H7 hvo
          go_wp2_with fail
          have PU : RowsOwn w7 (D + 1) (.slice (some ⟨g7, 0, none⟩) (qs.length + 1) cap7) (qs ++ [p]) :=
            (HROWS.out.later (below_alloc (Below.refl _ _) (Nat.le_refl _) _)).push (HP5.out.later (below_alloc (Below.refl _ _) (Nat.le_refl _) _)) HOWN7.out HGR7.out
              (fun q hq g hg => by
                have hrow : RowOwn A5 (D + 1) q := by
                  rcases hq with hq | rfl
                  · exact HROWS.out.rows q hq
                  · exact HP5.out
                exact hrow.apart HROWS.out.own g hg)
          have K8 : ∀ b, b < D + 1 → b ≠ w.heap.size + 5 → b < A5.heap.size → (w7.setCell ⟨w.heap.size + 5, 0, none⟩ (.slice (some ⟨g7, 0, none⟩) (qs.length + 1) cap7)).heap[b]? = A5.heap[b]? := fun b h1 h2 h3 => (Below.heap_setCell _ _ _ _ h2).trans (H7'.out b h1 h3)
          have zs8 : (w7.setCell ⟨w.heap.size + 5, 0, none⟩ (.slice (some ⟨g7, 0, none⟩) (qs.length + 1) cap7)).heap.size = w7.heap.size := by simp [World.setCell]
          refine ⟨⟨(K8 _ (by omega) (by omega) (by omega)).trans GB5.out.1, (K8 _ (by omega) (by omega) (by omega)).trans GB5.out.2⟩, ⟨GA5.out.1.trans ⟨by omega, fun b hb hl => K8 b (by omega) (by omega) hl⟩, fun h1 h2 => (K8 D (by omega) (by omega) (by omega)).trans (GA5.out.2 h1 h2)⟩, ?_, ?_, ?_⟩
          · exact ⟨HGR7.out.os.trans I5.out.chg.os, HGR7.out.tape.trans I5.out.chg.tape, HGR7.out.output.trans I5.out.chg.output, by have := I5.out.chg.size; omega, fun b h1 h2 => (K8 b (by omega) h2 (by omega)).trans (I5.out.chg.block b h1 h2)⟩
          · refine ⟨.slice (some ⟨g7, 0, none⟩) (qs.length + 1) cap7, qs ++ [p], ?_, PU.grown (set_grown _ _ _) (fun r e => by injection e with e; simp only at e; omega), ?_⟩
            · rw [heap_set hpage7.out]
              simp
            · rw [List.filter_append, List.map_append, HQS.out]
              simp [HB1.out]
          · rw [List.filter_append, List.length_append, ← HQL.out]
            simp [HB1.out]
            omega
      | false =>
        rw [Bool.or_false] at hbey
        cases hl1 : Op.bytesLess p.d.key after with
        | true =>
          have HB0 : Hid (beyond k after seq p.d = false) := by show _ = _; rw [hbey, hl1]; rfl
          clear hbey
          refine wpIn_seq (wpIn_seq (region_inRound_k _ (by kernel_rfl) fun K hK => ?_))
          go_wp2_with fail
          gi_wp2
          refine ⟨GB5.out, GA5.out, I5.out.chg, ?_, ?_⟩
          · obtain ⟨vr, qs, h1, h2, h3⟩ := I5.out.row
            exact ⟨vr, qs, h1, h2, by rw [h3, List.filter_append]; simp [HB0.out]⟩
          · rw [List.filter_append]
            simp [HB0.out]
            exact I5.out.len
        | false =>
          by_cases hka : p.d.key = after
          · have HB0 : Hid (beyond k after seq p.d = false) := by show _ = _; rw [hbey, hl1, hka]; simp
            rw [hka] at cK5 hl1
            clear hka hbey
            refine wpIn_seq (wpIn_seq (region_inRound_k _ (by kernel_rfl) fun K hK => ?_))
            go_wp2_with fail
            gi_wp2
            refine ⟨GB5.out, GA5.out, I5.out.chg, ?_, ?_⟩
            · obtain ⟨vr, qs, h1, h2, h3⟩ := I5.out.row
              exact ⟨vr, qs, h1, h2, by rw [h3, List.filter_append]; simp [HB0.out]⟩
            · rw [List.filter_append]
              simp [HB0.out]
              exact I5.out.len
          · have hb1 : beyond k after seq p.d = true := by rw [hbey, hl1]; simp [hka]
            have HB1 := Lib.hid hb1
            clear hb1 hbey
            refine wpIn_seq (wpIn_seq (region_inRound_k _ (by kernel_rfl) fun K hK => ?_))
            go_wp2_with fail
            refine wpIn_cond_false (by rfl) (wpIn_skip ?_)
            refine wpIn_seq (wpIn_seq (region_inRound_k _ (by kernel_rfl) fun K1 hK1 => ?_))
            by_cases hfull : qs.length = M
            · have hfz : decide (((qs.length : Nat) : Int) = (M : Int)) = true := by simp; omega
              have hfz2 : ((qs.length : Nat) : Int) = (M : Int) := by omega
              go_wp2_with fail
              refine wpIn_cond_true (by simp [Act.eval, *]) ?_
              refine wpIn_seq (region_inRound_k _ (by kernel_rfl) fun K2 hK2 => ?_)
              go_wp2_with fail
              refine wpIn_exit ?_
              simp only [Exit.then, Exit.inBlock]
              have hMd : (decide ((0 : Int) < (M : Int))) = decide (0 < M) := by simp
              refine ⟨⟨(Below.heap_setCell _ _ _ _ (by simp only; omega)).trans GB5.out.1, (Below.heap_setCell _ _ _ _ (by simp only; omega)).trans GB5.out.2⟩, rfl, hD, ?_, ?_, ?_⟩
              · exact ⟨I5.out.chg.os, I5.out.chg.tape, I5.out.chg.output, by have := I5.out.chg.size; simpa [World.setCell] using this, fun b h1 h2 => (Below.heap_setCell _ _ _ _ h2).trans (I5.out.chg.block b h1 h2)⟩
              · refine ⟨.slice ar qs.length cr, qs, ?_, HROWS.out.grown (set_grown _ _ _) (fun r e => by injection e with e; simp only at e; omega), ?_⟩
                · rw [heap_set hpage5.out]
                  simp
                · rw [List.filter_append, ← HQS.out, List.take_append_of_le_length (by rw [List.length_map]; omega), List.take_of_length_le (by rw [List.length_map]; omega)]
              · rw [List.filter_append, List.length_append, ← HQL.out, hfull]
                simp [HB1.out]
            · have hfz : decide (((qs.length : Nat) : Int) = (M : Int)) = false := by simp; omega
              have hfz2 : ¬ ((qs.length : Nat) : Int) = (M : Int) := by omega
              go_wp2_with fail
              refine wpIn_cond_false (by simp [Act.eval, *]) (wpIn_skip ?_)
              refine region_inRound_k _ (by kernel_rfl) fun K2 hK2 => ?_
              have hqm := HQM.out
              rw [← HQL.out] at hqm
              go_wp2_with (first
                | (refine wpList_load_row (by rfl) 36 _ (by rfl) A.heap.size (by rfl) 36 #[.string ⟨p.d.key.toArray⟩, .bool p.d.common, .bool p.d.latest, .int .i64 p.d.ver.seq, .bool p.d.ver.null, .bool p.d.ver.marker, .string ⟨p.d.ver.etag.toArray⟩, .string ⟨p.d.ver.type.toArray⟩, .int .i64 p.d.ver.size, .int .i64 p.d.ver.when_, p.vb, .int .i64 p.d.upl.seq, .string ⟨p.d.upl.bucket.toArray⟩, .string ⟨p.d.upl.key.toArray⟩, .string ⟨p.d.upl.type.toArray⟩, .string ⟨p.d.upl.owner.toArray⟩, .int .i64 p.d.upl.when_, p.vp] (0, 0) _ (by exact (B5.out.block _ (by omega)).trans H2L.out) Tryd.underlying36 rfl (by kernel_rfl) ?_)
                | (at_builtin; refine wpList_append_own _ rfl _ _ 22 rfl (D + 1) 36 i0 _ 18 216 Tryd.underlying22 hi0 hz0 hz1 hz2 rfl (by decide) _ _ _ rfl (own_later HROWS.out.own (below_alloc (Below.refl _ _) (Nat.le_refl _) _)) ⟨A5.heap.size, 0, none⟩ 1 1 p.cells rfl rfl ?c1 ?c2 ?c3 ?c4 ?c5 ?_))
              case c1 => exact fun j u hj => cells_new _ _ _ _ _ hj
              case c2 => exact HP5.out.one_mem
              case c3 => simp only [maxLen]; omega
              case c4 => omega
              case c5 => simp; omega
              intro v' w7 hown' hgrow _
              have hvo : ∀ g, (Value.slice ar qs.length cr).ownBlock = some g → D + 1 ≤ g ∧ g < A5.heap.size := fun g hg => HROWS.out.own.lt g hg
              obtain ⟨g7, cap7, rfl, hg7, hg7l⟩ := hown'.form (by omega)
              have H7 : ∀ b, b < D + 1 → b < A5.heap.size → w7.heap[b]? = A5.heap[b]? := fun b h1 h2 => (hgrow.block b (by simp; omega) (fun e => by have := (hvo b e.symm).1; omega)).trans (Below.heap_alloc _ _ _ h2)
              have hpage7 : Hid (w7.heap[w.heap.size + 5]? = some (.cells #[.slice ar qs.length cr, .bool false, .string ⟨#[]⟩, .int .i64 0] 26 (0, 0))) := (H7 _ (by omega) (by omega)).trans hpage5.out
              have cP7 : w7.cell? ⟨w.heap.size + 5, 0, none⟩ = some (.slice ar qs.length cr) := cell_of_heap hpage7.out
              have fP7 : w7.frozen? ⟨w.heap.size + 5, 0, none⟩ = false := free_of_heap hpage7.out
              have HOWN7 := Lib.hid hown'
              have HGR7 := Lib.hid hgrow
              have H7' := Lib.hid H7
              have hz7 : A5.heap.size + 1 ≤ w7.heap.size := by have := hgrow.size; simpa using this
              clear hown' hgrow H7 hvo
              go_wp2_with fail
              have PU : RowsOwn w7 (D + 1) (.slice (some ⟨g7, 0, none⟩) (qs.length + 1) cap7) (qs ++ [p]) :=
                (HROWS.out.later (below_alloc (Below.refl _ _) (Nat.le_refl _) _)).push (HP5.out.later (below_alloc (Below.refl _ _) (Nat.le_refl _) _)) HOWN7.out HGR7.out
                  (fun q hq g hg => by
                    have hrow : RowOwn A5 (D + 1) q := by
                      rcases hq with hq | rfl
                      · exact HROWS.out.rows q hq
                      · exact HP5.out
                    exact hrow.apart HROWS.out.own g hg)
              have K8 : ∀ b, b < D + 1 → b ≠ w.heap.size + 5 → b < A5.heap.size → (w7.setCell ⟨w.heap.size + 5, 0, none⟩ (.slice (some ⟨g7, 0, none⟩) (qs.length + 1) cap7)).heap[b]? = A5.heap[b]? := fun b h1 h2 h3 => (Below.heap_setCell _ _ _ _ h2).trans (H7'.out b h1 h3)
              have zs8 : (w7.setCell ⟨w.heap.size + 5, 0, none⟩ (.slice (some ⟨g7, 0, none⟩) (qs.length + 1) cap7)).heap.size = w7.heap.size := by simp [World.setCell]
              refine ⟨⟨(K8 _ (by omega) (by omega) (by omega)).trans GB5.out.1, (K8 _ (by omega) (by omega) (by omega)).trans GB5.out.2⟩, ⟨GA5.out.1.trans ⟨by omega, fun b hb hl => K8 b (by omega) (by omega) hl⟩, fun h1 h2 => (K8 D (by omega) (by omega) (by omega)).trans (GA5.out.2 h1 h2)⟩, ?_, ?_, ?_⟩
              · exact ⟨HGR7.out.os.trans I5.out.chg.os, HGR7.out.tape.trans I5.out.chg.tape, HGR7.out.output.trans I5.out.chg.output, by have := I5.out.chg.size; omega, fun b h1 h2 => (K8 b (by omega) h2 (by omega)).trans (I5.out.chg.block b h1 h2)⟩
              · refine ⟨.slice (some ⟨g7, 0, none⟩) (qs.length + 1) cap7, qs ++ [p], ?_, PU.grown (set_grown _ _ _) (fun r e => by injection e with e; simp only at e; omega), ?_⟩
                · rw [heap_set hpage7.out]
                  simp
                · rw [List.filter_append, List.map_append, HQS.out]
                  simp [HB1.out]
              · rw [List.filter_append, List.length_append, ← HQL.out]
                simp [HB1.out]
                omega
  case hdone =>
    intro D W hD hI hK
    obtain ⟨vr, qs, hpg, hrows, hqs⟩ := hI.row
    obtain ⟨ar, cr, rfl⟩ := own_form hrows.own
    have HPG := Lib.hid hpg
    have HRS : Hid (W.heap[w.heap.size + 4]? = some (.cells pageZC 26 (0, 0))) := (hI.chg.block _ (by omega) (by omega)).trans fR.out
    have cP1 : W.cell? ⟨w.heap.size + 5, 1, none⟩ = some (.bool false) := cell_of_heap hpg
    have HI := Lib.hid hI
    have HROWS := Lib.hid hrows
    have HQS := Lib.hid hqs
    have HKD := Lib.hid hK
    clear hI hK hpg hrows hqs
    go_wp2_with (first
      | (refine wpList_load_row (by rfl) 26 _ (by rfl) (w.heap.size + 5) (by rfl) 26 #[.slice ar qs.length cr, .bool false, .string ⟨#[]⟩, .int .i64 0] (0, 0) _ (by exact HPG.out) Tryd.underlying26 rfl (by kernel_rfl) ?_)
      | (refine wpList_store_row (by rfl) 26 _ _ (by rfl) (w.heap.size + 4) #[.slice ar qs.length cr, .bool false, .string ⟨#[]⟩, .int .i64 0] (by rfl) (by rfl) 26 pageZC (by exact HRS.out) (by kernel_rfl) (by rfl) (by kernel_rfl) ?_))
    refine ⟨by simp, .inl ⟨wr.heap.size, _, rfl, run_takeDeferred ((setRow_other _ _ _ _ (by omega)).trans HKD.out), ?_⟩⟩
    refine ⟨_, results_cell_row rfl _ _ (w.heap.size + 4) 26 _ _ _ rfl ((World.putObj_heap_other (by omega)).trans (setRow_heap _ _ _ _ _ _ HRS.out)) Tryd.underlying26 rfl (by kernel_rfl), ?_⟩
    have hpl : pageL k (ps.map RowV.d) pre delim after seq most = ⟨(ents k pre delim rowZ (ps.map RowV.d)).filter (beyond k after seq), false, [], 0⟩ := pageOf_all HI.out.len
    rw [hpl]
    exact ⟨.slice ar qs.length cr, qs, rfl, HQS.out, RowsOwn.base (HROWS.out.keptB fun g h1 h2 => fin_keep (by omega) (by omega)) (by omega), fin_below BR.out HI.out.chg (by omega) (by omega) (by omega)⟩
  case hstop =>
    rintro D c pre' W hD hpre ⟨rfl, _, hE⟩ hK
    obtain ⟨vr, qs, hpg, hrows, hqs⟩ := hE.row
    obtain ⟨ar, cr, rfl⟩ := own_form hrows.own
    have HRS : Hid (W.heap[w.heap.size + 4]? = some (.cells pageZC 26 (0, 0))) := (hE.chg.block _ (by omega) (by omega)).trans fR.out
    have HE := Lib.hid hE
    have HROWS := Lib.hid hrows
    have HQS := Lib.hid hqs
    have HKD := Lib.hid hK
    have hpl : pageL k (ps.map RowV.d) pre delim after seq most = _ := pageOf_cut hpre hE.len
    have HPL := Lib.hid hpl
    clear hpl
    by_cases hM : 0 < mostN most
    · have hMd : decide (0 < mostN most) = true := by simpa using hM
      rw [hMd] at hpg
      obtain ⟨N, hN⟩ : ∃ N, mostN most = N + 1 := ⟨mostN most - 1, by omega⟩
      have hql : qs.length = N + 1 := by
        have := congrArg List.length hqs
        rw [List.length_map, List.length_take, hE.len, hN] at this
        omega
      have hm1 := mostN_le most
      obtain ⟨q, hq⟩ : ∃ q, qs[N]? = some q := ⟨_, List.getElem?_eq_getElem (by omega)⟩
      have hqm := List.mem_of_getElem? hq
      have hsl : SlAt W 18 (.slice ar qs.length cr) (qs.map RowV.cells) := own_slAt (by rw [List.length_map]; exact hrows.own) (fun r hr => by obtain ⟨_, _, rfl⟩ := List.mem_map.1 hr; rfl) (by rw [List.length_map]; omega)
      obtain ⟨a', c', he, _, hc⟩ := hsl
      injection he with e1 e2 e3
      subst e1
      obtain ⟨b, off, rfl, hcell⟩ := hc N q.cells (by rw [List.getElem?_map, hq]; rfl)
      clear hc e2 e3
      have HCELL : Hid (W.rangeAt b (off + N * 18) q.cells) := hcell
      have hpl : Hid (q.cells.length = 18) := rfl
      obtain ⟨qc, hqc⟩ : ∃ qc : Array Value, q.cells.toArray = qc := ⟨_, rfl⟩
      have HQC := Lib.hid hqc
      have hqsz : Hid (qc.size = 18) := by show _ = _; rw [← hqc]; rfl
      have hqo : Hid ((qc.all fun x => x.oneCell') = true) := by show _ = _; rw [← hqc]; exact (hrows.rows q hqm).ones
      have hq0 : Hid (qc[0]? = some (.string ⟨q.d.key.toArray⟩)) := by show _ = _; rw [← hqc]; rfl
      have HPG := Lib.hid hpg
      have HQL := Lib.hid hql
      have HQ := Lib.hid hq
      have cP0 : W.cell? ⟨w.heap.size + 5, 0, none⟩ = some (.slice (some ⟨b, off, none⟩) qs.length cr) := cell_of_heap hpg
      have cP1 : W.cell? ⟨w.heap.size + 5, 1, none⟩ = some (.bool true) := cell_of_heap hpg
      have cM1 : W.cell? ⟨w.heap.size + 2, 0, none⟩ = some (.int .i64 (mostN most : Int)) := by
        rw [cell_of_heap ((hE.chg.block _ (by omega) (by omega)).trans fM.out), mostN_eq]
        rfl
      have hwN : IntKind.i64.wrap ((mostN most : Int) - 1) = (N : Int) := by rw [IntKind.wrap_i64]; omega
      have hN0 : (0 : Int) ≤ (N : Int) := by omega
      have hN1 : (N : Int) < (qs.length : Int) := by omega
      have hN2 : N < qs.length := by omega
      have hzW : wr.heap.size ≤ W.heap.size := hE.chg.size
      have P3 : Hid ((fun A : World => A.heap[W.heap.size]? = some (.cells qc 36 (0, 0)) ∧ A.heap.size = W.heap.size + 1 ∧ Below W.heap.size W A) ((W.alloc (.cells rowZC 36)).setRow W.heap.size qc)) := by
        rw [setRow_alloc _ _ _ _ _ rfl]
        exact ⟨heap_alloc_new _ _, by simp, below_alloc (Below.refl _ _) (Nat.le_refl _) _⟩
      obtain ⟨fnS, hfS, hnS, hbS⟩ := HV.out.gs
      have HFS := Lib.hid hfS
      have HSQ : Hid (∀ B, Calls Tryd.prog fs #[.agg qc] B fun e w' => e = .returned (.int .i64 (seqOf k q.d)) ∧ Below B.heap.size B w') := fun B => by
        have := HV.out.seq q B
        rw [HQC.out] at this
        exact this
      clear hE hK hpg hrows hqs hcell hqc hql hq hqm hfS
      go_upto_region 12 with (first
        | (refine wpList_load_mid (by rfl) 36 _ (by rfl) b (off + N * 18) (by rfl) q.cells _ (by exact HCELL.out) Tryd.underlying36 rfl (by rw [hpl.out]; kernel_rfl) ?_; rw [HQC.out])
        | (refine wpList_store_rowN (by rfl) 36 _ _ (by rfl) W.heap.size qc (by rfl) (by rfl) 36 rowZC (by exact heap_alloc_new _ _) (by rw [hqsz.out]; kernel_rfl) (by rw [hqsz.out]; rfl) (by exact hqo.out) (fun A : World => A.heap[W.heap.size]? = some (.cells qc 36 (0, 0)) ∧ A.heap.size = W.heap.size + 1 ∧ Below W.heap.size W A) (by exact P3.out) ?_
           clear P3
           rintro X ⟨h3, z3, b3⟩
           have H3 := Lib.hid h3
           have B3 := Lib.hid b3
           clear h3 b3))
      have CX : Hid (Chg wr X (fun b => b = w.heap.size + 5)) := HE.out.chg.below_on B3.out
      have PX : Hid (X.heap[w.heap.size + 5]? = some (.cells #[.slice (some ⟨b, off, none⟩) qs.length cr, .bool true, .string ⟨#[]⟩, .int .i64 0] 26 (0, 0))) := (B3.out.block _ (by omega)).trans HPG.out
      have cKq : X.cell? ⟨W.heap.size, 0, none⟩ = some (.string ⟨q.d.key.toArray⟩) := (cell_of_heap H3.out).trans hq0.out
      have cVs : X.cell? ⟨w.heap.size + 3, 1, none⟩ = some (.func (.func fs) #[] #[]) := cell_of_heap ((CX.out.block _ (by omega) (by omega)).trans fV.out)
      refine drawn_k (S := fun B : World => Chg X B (fun b => b = w.heap.size + 5)) (by kernel_rfl) (Chg.of_below (Below.refl _ _).drew) (fun hS0 K0 hK0 => ?_)
      refine wpAnyH_take (i := 0) (oi := { dst := some 81, op := _, type := _, pos := _, after := _, guard := _ }) (v := ?_) rfl (by kernel_rfl) (by kernel_rfl) (by kernel_rfl) (fun _ _ _ h => h) (Or.inl ⟨by kernel_rfl, ?_⟩) (by assumption) ?_
      rotate_left
      · (intro w hSw; (try dsimp only at hSw); go_simp); all_goals (with_reducible rfl)
      try simp only [Act.put, List.setIfInBounds_toArray, List.set_cons_zero, List.set_cons_succ]
      refine wpAnyH_take (i := 1) (oi := { dst := some 82, op := _, type := _, pos := _, after := _, guard := _ }) (v := ?_) rfl (by kernel_rfl) (by kernel_rfl) (by kernel_rfl) (fun _ _ _ h => h) (Or.inl ⟨by kernel_rfl, ?_⟩) (by assumption) ?_
      rotate_left
      · (intro w hSw; (try dsimp only at hSw); have k1 := Chg.cell hSw (by show ¬ (_ = _); omega) cKq; have k2 := Chg.cell hSw (by show ¬ (_ = _); omega) cVs; go_simp); all_goals (with_reducible rfl)
      try simp only [Act.put, List.setIfInBounds_toArray, List.set_cons_zero, List.set_cons_succ]
      refine wpAnyH_take (i := 2) (oi := { dst := some 83, op := _, type := _, pos := _, after := _, guard := _ }) (v := ?_) rfl (by kernel_rfl) (by kernel_rfl) (by kernel_rfl) (fun _ _ _ h => h) (Or.inl ⟨by kernel_rfl, ?_⟩) (by assumption) ?_
      rotate_left
      · (intro w hSw; (try dsimp only at hSw); go_simp); all_goals (with_reducible rfl)
      try simp only [Act.put, List.setIfInBounds_toArray, List.set_cons_zero, List.set_cons_succ]
      refine wpAnyH_take (i := 3) (oi := { dst := some 84, op := _, type := _, pos := _, after := _, guard := _ }) (v := ?_) rfl (by kernel_rfl) (by kernel_rfl) (by kernel_rfl) (fun _ _ _ h => h) (Or.inl ⟨by kernel_rfl, ?_⟩) (by assumption) ?_
      rotate_left
      · (intro w hSw; (try dsimp only at hSw); have k1 := Chg.cell hSw (by show ¬ (_ = _); omega) cKq; have k2 := Chg.cell hSw (by show ¬ (_ = _); omega) cVs; go_simp); all_goals (with_reducible rfl)
      try simp only [Act.put, List.setIfInBounds_toArray, List.set_cons_zero, List.set_cons_succ]
      refine wpAnyH_take (i := 6) (oi := { dst := some 87, op := _, type := _, pos := _, after := _, guard := _ }) (v := ?_) rfl (by kernel_rfl) (by kernel_rfl) (by kernel_rfl) (fun _ _ _ h => h) (Or.inl ⟨by kernel_rfl, ?_⟩) (by assumption) ?_
      rotate_left
      · (intro w hSw; (try dsimp only at hSw); go_simp); all_goals (with_reducible rfl)
      try simp only [Act.put, List.setIfInBounds_toArray, List.set_cons_zero, List.set_cons_succ]
      refine wpAnyH_ready (rs := [4]) (by kernel_rfl) (by simp) ?_
      refine (AllReadyH.cons (o := { dst := some 85, op := _, type := _, pos := _, after := _, guard := _ }) rfl (fun K hK => ?_) AllReadyH.nil)
      rw [if_pos (by kernel_rfl)]
      refine wp_load_row 36 _ (by rfl) W.heap.size (by rfl) 36 qc (0, 0) _ (by exact H3.out) Tryd.underlying36 rfl (by rw [hqsz.out]; kernel_rfl) ?_
      refine hK.out _ _ (by assumption) (fun hS1 => ?_)
      clear hK K
      try simp only [Act.put, List.setIfInBounds_toArray, List.set_cons_zero, List.set_cons_succ]
      refine wpAnyH_ready (rs := [5]) (by kernel_rfl) (by simp) ?_
      refine (AllReadyH.cons (o := { dst := some 86, op := _, type := _, pos := _, after := _, guard := _ }) rfl (fun K hK => ?_) AllReadyH.nil)
      rw [if_pos (by kernel_rfl)]
      refine wp_call_val HFS.out hnS hbS (xs := [.tmp 85]) (vs := [.agg qc]) (by rfl) (by rfl) (by exact HSQ.out _) (by rfl) ?_
      rintro e E1 ⟨rfl, e1⟩
      refine ⟨_, rfl, ?_⟩
      refine hK.out _ _ (Chg.below_on hS1 e1) (fun hS2 => ?_)
      have PE1 : Hid (E1.heap[w.heap.size + 5]? = some (.cells #[.slice (some ⟨b, off, none⟩) qs.length cr, .bool true, .string ⟨#[]⟩, .int .i64 0] 26 (0, 0))) := (e1.block _ (by show w.heap.size + 5 < X.heap.size; omega)).trans PX.out
      have cE2 : E1.cell? ⟨w.heap.size + 5, 2, none⟩ = some (.string ⟨#[]⟩) := cell_of_heap PE1.out
      have fE := fun o => free_of_heap (x := o) PE1.out
      have cE3 : (E1.setCell ⟨w.heap.size + 5, 2, none⟩ (.string ⟨q.d.key.toArray⟩)).cell? ⟨w.heap.size + 5, 3, none⟩ = some (.int .i64 0) := by rw [cell_of_heap (heap_set PE1.out _)]; rfl
      clear hK K
      try simp only [Act.put, List.setIfInBounds_toArray, List.set_cons_zero, List.set_cons_succ]
      refine wpAnyH_ready (rs := [7]) (by kernel_rfl) (by simp) ?_
      refine (AllReadyH.cons (o := { dst := none, op := _, type := _, pos := _, after := _, guard := _ }) rfl (fun K hK => ?_) AllReadyH.nil)
      rw [if_pos (by kernel_rfl)]
      go_wp2_with fail
      refine hK.out _ _ (hS2.set_on ⟨w.heap.size + 5, 2, none⟩ _ rfl) (fun hS3 => ?_)
      clear hK K
      try simp only [Act.put]
      refine wpAnyH_take (i := 8) (oi := { dst := some 88, op := _, type := _, pos := _, after := _, guard := _ }) (v := ?_) rfl (by kernel_rfl) (by kernel_rfl) (by kernel_rfl) (fun _ _ _ h => h) (Or.inl ⟨by kernel_rfl, ?_⟩) (by assumption) ?_
      rotate_left
      · (intro w hSw; (try dsimp only at hSw); go_simp); all_goals (with_reducible rfl)
      try simp only [Act.put, List.setIfInBounds_toArray, List.set_cons_zero, List.set_cons_succ]
      refine wpAnyH_ready (rs := [9]) (by kernel_rfl) (by simp) ?_
      refine (AllReadyH.cons (o := { dst := none, op := _, type := _, pos := _, after := _, guard := _ }) rfl (fun K hK => ?_) AllReadyH.nil)
      rw [if_pos (by kernel_rfl)]
      go_wp2_with fail
      refine hK.out _ _ ((hS2.set_on ⟨w.heap.size + 5, 2, none⟩ _ rfl).set_on ⟨w.heap.size + 5, 3, none⟩ _ rfl) (fun hS4 => ?_)
      clear hK K
      try simp only [Act.put]
      refine wpAnyH_done (by kernel_rfl) ?_ _
      refine hK0 _ _ ?_
      clear hS0 hS1 hS2 hS3 hS4 cE2 fE cE3
      generalize hZ : ((E1.setCell ⟨w.heap.size + 5, 2, none⟩ (.string ⟨q.d.key.toArray⟩)).setCell ⟨w.heap.size + 5, 3, none⟩ (.int .i64 (seqOf k q.d))) = Z

      have PZ : Hid (Z.heap[w.heap.size + 5]? = some (.cells #[.slice (some ⟨b, off, none⟩) qs.length cr, .bool true, .string ⟨q.d.key.toArray⟩, .int .i64 (seqOf k q.d)] 26 (0, 0))) := by
        show _ = _
        rw [← hZ, heap_set (heap_set PE1.out _)]
        simp
      have CZ : Hid (Chg wr Z (fun b => b = w.heap.size + 5)) := by
        show Chg _ _ _
        rw [← hZ]
        exact ((CX.out.below_on ((Below.refl _ X).drew.trans e1)).set_on _ _ rfl).set_on _ _ rfl
      have HRS : Hid (Z.heap[w.heap.size + 4]? = some (.cells pageZC 26 (0, 0))) := (CZ.out.block _ (by omega) (by omega)).trans fR.out
      have KW : ∀ b, b ≠ w.heap.size + 5 → b < W.heap.size → Z.heap[b]? = W.heap[b]? := fun b h1 h2 => by
        rw [← hZ, Below.heap_setCell _ _ _ _ h1, Below.heap_setCell _ _ _ _ h1, e1.block b (by show b < X.heap.size; omega)]
        exact B3.out.block b h2
      have HKW := Lib.hid KW
      have zZ : W.heap.size ≤ Z.heap.size := by have := CX.out.size; have := e1.size; rw [← hZ]; simp [World.setCell] at *; omega
      have HKD2 : Hid (Z.heap[w.heap.size + 6 + 4]? = some (.deferred (some []))) := by
        show _ = _
        rw [show w.heap.size + 6 + 4 = wr.heap.size by omega]
        exact (KW _ (by omega) (Array.getElem?_eq_some_iff.1 HKD.out).1).trans HKD.out
      clear hZ HPG HKD KW e1 cKq cVs cP0 cP1 cM1
      have HPG := PZ
      have HKD := HKD2
      go_wp2_with (first
        | (refine wpList_load_row (by rfl) 26 _ (by rfl) (w.heap.size + 5) (by rfl) 26 #[.slice (some ⟨b, off, none⟩) qs.length cr, .bool true, .string ⟨q.d.key.toArray⟩, .int .i64 (seqOf k q.d)] (0, 0) _ (by exact HPG.out) Tryd.underlying26 rfl (by kernel_rfl) ?_)
        | (refine wpList_store_row (by rfl) 26 _ _ (by rfl) (w.heap.size + 4) #[.slice (some ⟨b, off, none⟩) qs.length cr, .bool true, .string ⟨q.d.key.toArray⟩, .int .i64 (seqOf k q.d)] (by rfl) (by rfl) 26 pageZC (by exact HRS.out) (by kernel_rfl) (by rfl) (by kernel_rfl) ?_))
      refine ⟨by simp, .inl ⟨w.heap.size + 6 + 4, _, rfl, run_takeDeferred ((setRow_other _ _ _ _ (by omega)).trans HKD.out), ?_⟩⟩
      refine ⟨_, results_cell_row rfl _ _ (w.heap.size + 4) 26 _ _ _ rfl ((World.putObj_heap_other (by omega)).trans (setRow_heap _ _ _ _ _ _ HRS.out)) Tryd.underlying26 rfl (by kernel_rfl), ?_⟩
      rw [HPL.out, if_pos hM, ← HQS.out, last_get HQL.out HQ.out]
      exact ⟨.slice (some ⟨b, off, none⟩) qs.length cr, qs, rfl, rfl, RowsOwn.base (HROWS.out.keptB fun g h1 h2 => (fin_keep (by omega) (by omega)).trans (HKW.out g (by omega) h2)) (by omega), fin_below BR.out CZ.out (by omega) (by omega) (by omega)⟩
    · have hMd : decide (0 < mostN most) = false := by simpa using hM
      rw [hMd] at hpg
      have HPG := Lib.hid hpg
      have cP1 : W.cell? ⟨w.heap.size + 5, 1, none⟩ = some (.bool false) := cell_of_heap hpg
      clear hE hK hpg hrows hqs
      go_wp2_with (first
        | (refine wpList_load_row (by rfl) 26 _ (by rfl) (w.heap.size + 5) (by rfl) 26 #[.slice ar qs.length cr, .bool false, .string ⟨#[]⟩, .int .i64 0] (0, 0) _ (by exact HPG.out) Tryd.underlying26 rfl (by kernel_rfl) ?_)
        | (refine wpList_store_row (by rfl) 26 _ _ (by rfl) (w.heap.size + 4) #[.slice ar qs.length cr, .bool false, .string ⟨#[]⟩, .int .i64 0] (by rfl) (by rfl) 26 pageZC (by exact HRS.out) (by kernel_rfl) (by rfl) (by kernel_rfl) ?_))
      refine ⟨by simp, .inl ⟨wr.heap.size, _, rfl, run_takeDeferred ((setRow_other _ _ _ _ (by omega)).trans HKD.out), ?_⟩⟩
      refine ⟨_, results_cell_row rfl _ _ (w.heap.size + 4) 26 _ _ _ rfl ((World.putObj_heap_other (by omega)).trans (setRow_heap _ _ _ _ _ _ HRS.out)) Tryd.underlying26 rfl (by kernel_rfl), ?_⟩
      rw [HPL.out, if_neg hM]
      exact ⟨.slice ar qs.length cr, qs, rfl, HQS.out, RowsOwn.base (HROWS.out.keptB fun g h1 h2 => fin_keep (by omega) (by omega)) (by omega), fin_below BR.out HE.out.chg (by omega) (by omega) (by omega)⟩
end Go.Proofs.YtgklbmcnpnmkkaaDoor
