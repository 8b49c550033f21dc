/-
  ListingPages: the walk. (Printed by wip/gen/lspagesl.py.)
-/
import Derived.Test.YtgklbmcnpnmkkaaDoorSm20
import Derived.Test.YtgklbmcnpnmkkaaDoorLsStill
import Derived.Test.YtgklbmcnpnmkkaaDoorLsSpoil
import Derived.Test.YtgklbmcnpnmkkaaDoorSm37
import Derived.Test.YtgklbmcnpnmkkaaDoorLsRPage
import Derived.Test.YtgklbmcnpnmkkaaDoorLsEx
namespace Go.Proofs.YtgklbmcnpnmkkaaDoor
open Go.RowKit Go.Lib

/-- a page that came, in a block of its own -/
structure PgW (W : World) (base top gp : Nat) (ar : Option Addr) (cr : Nat) (p : PageD) (qs : List RowV) : Prop where
  page : W.heap[gp]? = some (.cells (pgC (.slice ar qs.length cr) p) 26 (0, 0))
  own : RowsOwn W base (.slice ar qs.length cr) qs
  ob : OwnBelow top (.slice ar qs.length cr) qs
  says : qs.map RowV.d = p.rows
  ord : base ≤ top ∧ top ≤ gp
theorem PgW.later {W W' : World} {base top gp : Nat} {ar : Option Addr} {cr : Nat} {p : PageD} {qs : List RowV} (h : PgW W base top gp ar cr p qs) (hb : Below W.heap.size W W') : PgW W' base top gp ar cr p qs :=
  ⟨(hb.block _ (Array.getElem?_eq_some_iff.1 h.page).1).trans h.page, h.own.later hb, h.ob, h.says, h.ord⟩
theorem PgW.lt {W : World} {base top gp : Nat} {ar : Option Addr} {cr : Nat} {p : PageD} {qs : List RowV} (h : PgW W base top gp ar cr p qs) : gp < W.heap.size := (Array.getElem?_eq_some_iff.1 h.page).1
theorem PgW.chg {W W' : World} {base top gp b1 t1 : Nat} {ar : Option Addr} {cr : Nat} {p : PageD} {qs : List RowV} (h : PgW W base top gp ar cr p qs) (hc : Chg W W' (fun x => b1 ≤ x ∧ x < t1)) (ht : t1 ≤ base) : PgW W' base top gp ar cr p qs :=
  ⟨(hc.block _ h.lt (fun hm => by have := h.ord; omega)).trans h.page, h.own.keptB fun g h1 h2 => hc.block g h2 (fun hm => by omega), h.ob, h.says, h.ord⟩
theorem PgW.range {W : World} {base top gp : Nat} {ar : Option Addr} {cr : Nat} {p : PageD} {qs : List RowV} (h : PgW W base top gp ar cr p qs) : W.rangeAt gp 0 [.slice ar qs.length cr, .bool p.more, .string ⟨p.next.toArray⟩, .int .i64 p.entry] :=
  range_of_heap h.page fun j v hv => by rw [Nat.zero_add]; simpa [pgC] using hv
/-- a page as it came, laid into a variable -/
theorem PgW.start {w w' : World} {ar : Option Addr} {cr : Nat} {p : PageD} {qs : List RowV} (hq : qs.map RowV.d = p.rows) (hr : RowsOwn w' w.heap.size (.slice ar qs.length cr) qs) (hb : Below w.heap.size w w') :
    PgW ((w'.alloc (.cells pageZC 26)).setRow w'.heap.size (pgC (.slice ar qs.length cr) p)) w.heap.size w'.heap.size w'.heap.size ar cr p qs ∧ Below w.heap.size w ((w'.alloc (.cells pageZC 26)).setRow w'.heap.size (pgC (.slice ar qs.length cr) p)) := by
  rw [setRow_alloc _ _ _ _ _ rfl]
  have b1 : Below w'.heap.size w' (w'.alloc (.cells (pgC (.slice ar qs.length cr) p) 26)) := below_alloc (Below.refl _ _) (Nat.le_refl _) _
  exact ⟨⟨heap_alloc_new _ _, hr.later b1, hr.ownBelow, hq, hb.size, Nat.le_refl _⟩, hb.trans (b1.mono hb.size)⟩
theorem pageL_len (k : Kind) (l : List RowD) (pre delim after : List UInt8) (seq most : Int) : (pageL k l pre delim after seq most).rows.length ≤ 1000 := Nat.le_trans (page_rows_len _ _ _ _ _) (mostN_le _)
theorem pageL_size (k : Kind) {l : List RowD} (pre delim after : List UInt8) (seq most : Int) (hl : ∀ r ∈ l, SizeOK r) : ∀ e ∈ (pageL k l pre delim after seq most).rows, SizeOK e := fun e he => by
  unfold pageL at he
  rw [page_rows] at he
  exact ents_size hl e (List.mem_filter.1 (List.mem_of_mem_take he)).1
/-- a page as the two tell it -/
structure PgOK (p : PageD) : Prop where
  len : p.rows.length ≤ 1000
  size : ∀ r ∈ p.rows, SizeOK r
theorem PgW.rowsIn {W : World} {base top gp : Nat} {ar : Option Addr} {cr : Nat} {p : PageD} {qs : List RowV} (h : PgW W base top gp ar cr p qs) (hp : PgOK p) : RowsIn W (.slice ar qs.length cr) qs ∧ qs.length ≤ 1000 :=
  have hl : qs.length ≤ 1000 := by have := hp.len; rw [← h.says, List.length_map] at this; exact this
  ⟨h.own.toIn (by omega) fun q hq => hp.size _ (by rw [← h.says]; exact List.mem_map_of_mem hq), hl⟩
theorem own_rowsIn {w' : World} {base : Nat} {ar : Option Addr} {cr : Nat} {p : PageD} {qs : List RowV} (hq : qs.map RowV.d = p.rows) (hr : RowsOwn w' base (.slice ar qs.length cr) qs) (hp : PgOK p) : RowsIn w' (.slice ar qs.length cr) qs :=
  have hl : qs.length ≤ 1000 := by have := hp.len; rw [← hq, List.length_map] at this; exact this
  hr.toIn (by omega) fun q hm => hp.size _ (by rw [← hq]; exact List.mem_map_of_mem hm)
/-- all but the last -/
theorem RowsIn.init {w : World} {a : Option Addr} {n c c' : Nat} {xs : List RowV} {m : RowV} (h : RowsIn w (.slice a (n + 1) c) (xs ++ [m])) (hn : xs.length = n) : RowsIn w (.slice a n c') xs := by
  obtain ⟨a', c2, he, hl, hc⟩ := h.sl
  injection he with h1 _ _
  subst h1
  rw [List.length_map, List.length_append, List.length_singleton] at hl
  refine ⟨⟨a, c', by rw [List.length_map, hn], by rw [List.length_map]; omega, fun i r hr => hc i r ?_⟩, fun p hp => h.rows p (by simp [hp])⟩
  rw [List.getElem?_map] at hr ⊢
  obtain ⟨p, hp, rfl⟩ := Option.map_eq_some_iff.1 hr
  rw [List.getElem?_append_left (List.getElem?_eq_some_iff.1 hp).1, hp]
  rfl

set_option maxHeartbeats 16000000 in
set_option maxRecDepth 100000 in
theorem pages_walk {w : World} {a0 : Option Addr} {c0 : Nat} {ps : List RowV} {pre delim after : List UInt8} {seq most : Int} (hG : GlobL w) (h : RowsIn w (.slice a0 ps.length c0) ps) (hz : ∀ p ∈ ps, SizeOK p.d) (hk : ∀ p ∈ ps, p.d.key.length < 4294967280) (hl : ps.length ≤ 16777216)
    (hpre : pre.length ≤ 16777216) (hdel : delim.length ≤ 16777216) :
    Calls Tryd.prog 7 #[.slice a0 ps.length c0, .string ⟨pre.toArray⟩, .string ⟨delim.toArray⟩, .string ⟨after.toArray⟩, .int .i64 seq, .int .i64 most] w (fun e w' => e = .returned (.bool true) ∧ Below w.heap.size w w') := by
  have HG := Lib.hid hG
  have HR := Lib.hid h
  have HZ := Lib.hid (And.intro hz hk)
  clear hG h hz hk
  go_enter Tryd.func7, Tryd.ntmps7
  go_wp2_with fail
  refine (examples_walk w HG.out).mono ?_
  rintro e w1 ⟨rfl, hb1⟩
  have B1 := Lib.hid hb1
  clear hb1
  go_wp2_with fail
  refine (copied_any (HR.out.later B1.out) HZ.out.1 hl).mono ?_
  rintro e w2 ⟨g, xs, rfl, hro, hxd, hb2⟩
  have hxl : xs.length = ps.length := by have := congrArg List.length hxd; simpa using this
  have B2 := Lib.hid (B1.out.trans (hb2.mono B1.out.size))
  have hxz : ∀ q ∈ xs ++ [markV], SizeOK q.d := fun q hq => by
    rcases List.mem_append.1 hq with hq | hq
    · have h1 : q.d ∈ ps.map RowV.d := by rw [← hxd]; exact List.mem_map_of_mem hq
      obtain ⟨p, hp, he⟩ := List.mem_map.1 h1
      rw [← he]
      exact HZ.out.1 p hp
    · rw [List.mem_singleton.1 hq]; exact size_nil rfl rfl
  have hkx : ∀ q ∈ xs, q.d.key.length < 4294967280 := fun q hq => by
    have h1 : q.d ∈ ps.map RowV.d := by rw [← hxd]; exact List.mem_map_of_mem hq
    obtain ⟨p, hp, he⟩ := List.mem_map.1 h1
    rw [← he]
    exact HZ.out.2 p hp
  have hro2 : RowsIn w2 (.slice (some ⟨g, 0, none⟩) (ps.length + 1) (ps.length + 1)) (xs ++ [markV]) := hro.toIn (by rw [List.length_append, List.length_singleton, hxl]; omega) hxz
  have HX := Lib.hid hro2
  have HXD := Lib.hid hxd
  have HLI : Hid (ListIn w2 (some ⟨g, 0, none⟩) (ps.length + 1) xs pre delim) :=
    ⟨by have := hro2.init (c' := ps.length + 1) hxl; rw [← hxl] at this ⊢; exact this, (HG.out.later B2.out).max, fun q hq => hxz q (by simp [hq]), fun q hq => ⟨by have := hkx q hq; omega, .inr (by have := hkx q hq; omega)⟩, by omega, by omega, by omega⟩
  have HRL : Hid (RListIn w a0 c0 ps pre delim) := ⟨HR.out, HZ.out.1, fun p hp => by have := HZ.out.2 p hp; omega, hl, by omega, by omega⟩
  have HSZ : Hid (∀ r ∈ ps.map RowV.d, SizeOK r) := fun r hr => by obtain ⟨p, hp, rfl⟩ := List.mem_map.1 hr; exact HZ.out.1 p hp
  obtain ⟨pg1, hpg1⟩ : ∃ p, pageL .objs (ps.map RowV.d) pre delim after 0 most = p := ⟨_, rfl⟩
  have OK1 : Hid (PgOK pg1) := by show PgOK _; rw [← hpg1]; exact ⟨pageL_len _ _ _ _ _ _ _, pageL_size _ _ _ _ _ _ HSZ.out⟩
  have HL1 : Hid (∀ W, Below w2.heap.size w2 W → Calls Tryd.prog 12 #[.slice (some ⟨g, 0, none⟩) ps.length (ps.length + 1), .string ⟨pre.toArray⟩, .string ⟨delim.toArray⟩, .string ⟨after.toArray⟩, .int .i64 most] W (PageOut pg1 W)) := fun W hW => by
    have := objects_any after most (HLI.out.later hW)
    rw [hxl, hxd, hpg1] at this
    exact this
  have HD1 : Hid (∀ W, Below w.heap.size w W → Calls Tryd.prog 20 #[.slice a0 ps.length c0, .string ⟨pre.toArray⟩, .string ⟨delim.toArray⟩, .string ⟨after.toArray⟩, .int .i64 most] W (PageOut pg1 W)) := fun W hW => by
    have := rObjects_any after most (HRL.out.later hW)
    rw [hpg1] at this
    exact this
  clear hpg1
  obtain ⟨pg2, hpg2⟩ : ∃ p, pageL .vers (ps.map RowV.d) pre delim after seq most = p := ⟨_, rfl⟩
  have OK2 : Hid (PgOK pg2) := by show PgOK _; rw [← hpg2]; exact ⟨pageL_len _ _ _ _ _ _ _, pageL_size _ _ _ _ _ _ HSZ.out⟩
  have HL2 : Hid (∀ W, Below w2.heap.size w2 W → Calls Tryd.prog 10 #[.slice (some ⟨g, 0, none⟩) ps.length (ps.length + 1), .string ⟨pre.toArray⟩, .string ⟨delim.toArray⟩, .string ⟨after.toArray⟩, .int .i64 seq, .int .i64 most] W (PageOut pg2 W)) := fun W hW => by
    have := versions_any after seq most (HLI.out.later hW)
    rw [hxl, hxd, hpg2] at this
    exact this
  have HD2 : Hid (∀ W, Below w.heap.size w W → Calls Tryd.prog 21 #[.slice a0 ps.length c0, .string ⟨pre.toArray⟩, .string ⟨delim.toArray⟩, .string ⟨after.toArray⟩, .int .i64 seq, .int .i64 most] W (PageOut pg2 W)) := fun W hW => by
    have := rVersions_any after seq most (HRL.out.later hW)
    rw [hpg2] at this
    exact this
  clear hpg2
  obtain ⟨pg3, hpg3⟩ : ∃ p, pageL .upls (ps.map RowV.d) pre delim after seq most = p := ⟨_, rfl⟩
  have OK3 : Hid (PgOK pg3) := by show PgOK _; rw [← hpg3]; exact ⟨pageL_len _ _ _ _ _ _ _, pageL_size _ _ _ _ _ _ HSZ.out⟩
  have HL3 : Hid (∀ W, Below w2.heap.size w2 W → Calls Tryd.prog 18 #[.slice (some ⟨g, 0, none⟩) ps.length (ps.length + 1), .string ⟨pre.toArray⟩, .string ⟨delim.toArray⟩, .string ⟨after.toArray⟩, .int .i64 seq, .int .i64 most] W (PageOut pg3 W)) := fun W hW => by
    have := uploads_any after seq most (HLI.out.later hW)
    rw [hxl, hxd, hpg3] at this
    exact this
  have HD3 : Hid (∀ W, Below w.heap.size w W → Calls Tryd.prog 22 #[.slice a0 ps.length c0, .string ⟨pre.toArray⟩, .string ⟨delim.toArray⟩, .string ⟨after.toArray⟩, .int .i64 seq, .int .i64 most] W (PageOut pg3 W)) := fun W hW => by
    have := rUploads_any after seq most (HRL.out.later hW)
    rw [hpg3] at this
    exact this
  clear hpg3
  clear hro hro2 hxd hb2 hxz hkx HLI HRL HZ HSZ HG B1
  go_wp2_with fail
  go_loopg [16] 2 (fun gg s16 wr => ∃ t : Nat, t ≤ 2 ∧ 2 - t ≤ gg ∧ s16 = .int .i64 t ∧ Hid (Below w2.heap.size w2 wr))
  case atStart => exact ⟨0, by omega, by omega, rfl, Below.refl _ _⟩
  case round =>
    obtain ⟨t, ht, hgg, rfl, HB⟩ := hrel
    by_cases hlt : t < 2
    · have htz : (t : Int) < 2 := by omega
      go_wp2_with fail
      refine (HL1.out _ HB.out).mono ?_
      rintro e v1 ⟨vr, qs1, rfl, hq, hr, hb⟩
      obtain ⟨ar1, cr1, rfl⟩ := own_form hr.own
      have HS := Lib.hid (PgW.start hq hr hb)
      clear hq hr hb
      go_upto_region 8 with (refine wpList_store_rowN (by rfl) 26 _ _ (by rfl) v1.heap.size (pgC (.slice ar1 qs1.length cr1) pg1) (by rfl) (by rfl) 26 pageZC (by exact heap_alloc_new _ _) (by kernel_rfl) (by rfl) (by kernel_rfl) (fun W => PgW W wr.heap.size v1.heap.size v1.heap.size ar1 cr1 pg1 qs1 ∧ Below wr.heap.size wr W) (by exact HS.out) ?_; clear HS; rintro W1 hW1)
      have HB1 := Lib.hid (HB.out.trans (hW1.2.mono HB.out.size))
      
      have P1 := Lib.hid hW1.1
      have hs1 := hW1.2.size
      have hlt1 := hW1.1.lt
      generalize v1.heap.size = gp1 at *
      clear hW1 v1
      go_wp2_with fail
      refine (HL2.out _ HB1.out).mono ?_
      rintro e v2 ⟨vr, qs2, rfl, hq, hr, hb⟩
      obtain ⟨ar2, cr2, rfl⟩ := own_form hr.own
      have HS := Lib.hid (PgW.start hq hr hb)
      clear hq hr hb
      go_upto_region 9 with (refine wpList_store_rowN (by rfl) 26 _ _ (by rfl) v2.heap.size (pgC (.slice ar2 qs2.length cr2) pg2) (by rfl) (by rfl) 26 pageZC (by exact heap_alloc_new _ _) (by kernel_rfl) (by rfl) (by kernel_rfl) (fun W => PgW W W1.heap.size v2.heap.size v2.heap.size ar2 cr2 pg2 qs2 ∧ Below W1.heap.size W1 W) (by exact HS.out) ?_; clear HS; rintro W2 hW2)
      have HB2 := Lib.hid (HB1.out.trans (hW2.2.mono HB1.out.size))
      have P1 := Lib.hid (P1.out.later (hW2.2.mono (Nat.le_refl _)))
      have P2 := Lib.hid hW2.1
      have hs2 := hW2.2.size
      have hlt2 := hW2.1.lt
      generalize v2.heap.size = gp2 at *
      clear hW2 v2
      go_wp2_with fail
      refine (HL3.out _ HB2.out).mono ?_
      rintro e v3 ⟨vr, qs3, rfl, hq, hr, hb⟩
      obtain ⟨ar3, cr3, rfl⟩ := own_form hr.own
      have HS := Lib.hid (PgW.start hq hr hb)
      clear hq hr hb
      go_upto_region 10 with (refine wpList_store_rowN (by rfl) 26 _ _ (by rfl) v3.heap.size (pgC (.slice ar3 qs3.length cr3) pg3) (by rfl) (by rfl) 26 pageZC (by exact heap_alloc_new _ _) (by kernel_rfl) (by rfl) (by kernel_rfl) (fun W => PgW W W2.heap.size v3.heap.size v3.heap.size ar3 cr3 pg3 qs3 ∧ Below W2.heap.size W2 W) (by exact HS.out) ?_; clear HS; rintro W3 hW3)
      have HB3 := Lib.hid (HB2.out.trans (hW3.2.mono HB2.out.size))
      have P1 := Lib.hid (P1.out.later (hW3.2.mono (Nat.le_refl _)))
      have P2 := Lib.hid (P2.out.later (hW3.2.mono (Nat.le_refl _)))
      have P3 := Lib.hid hW3.1
      have hs3 := hW3.2.size
      have hlt3 := hW3.1.lt
      generalize v3.heap.size = gp3 at *
      clear hW3 v3
      have BW1 := Lib.hid (B2.out.trans (HB3.out.mono B2.out.size))
      simp only [Act.put]
      go_cut [20] (fun s wx => s = .bool true ∧ Hid (Below W3.heap.size W3 wx))
      case first =>
        refine wp_region_held_drew (S := (fun W : World => Below W3.heap.size W3 W)) (by kernel_rfl) (Below.refl _ _).drew (fun hS0 => ?_)
        refine wpAnyH_take (i := 0) (oi := { dst := some 55, op := _, type := _, pos := _, after := _, guard := _ }) (v := .agg ([.slice ar1 qs1.length cr1, .bool pg1.more, .string ⟨pg1.next.toArray⟩, .int .i64 pg1.entry]).toArray) rfl (by kernel_rfl) (by kernel_rfl) (by kernel_rfl) (fun _ _ _ h => h) (yieldsIf_load_mid (by kernel_rfl) 26 _ (by rfl) gp1 (0) (by rfl) ([.slice ar1 qs1.length cr1, .bool pg1.more, .string ⟨pg1.next.toArray⟩, .int .i64 pg1.entry]) _ (fun w hSw => by (try dsimp only at hSw); exact (P1.out.later hSw).range) Tryd.underlying26 rfl (by rfl)) (by assumption) ?_
        try simp only [Act.put, List.setIfInBounds_toArray, List.set_cons_zero, List.set_cons_succ]
        refine wpAnyH_take (i := 1) (oi := { dst := some 56, op := _, type := _, pos := _, after := _, guard := _ }) (v := ?_) rfl (by kernel_rfl) (by kernel_rfl) (by kernel_rfl) (fun _ _ _ h => h) (Or.inl ⟨by kernel_rfl, ?_⟩) (by assumption) ?_
        rotate_left
        · (intro w hSw; (try dsimp only at hSw); go_simp); all_goals (with_reducible rfl)
        try simp only [Act.put, List.setIfInBounds_toArray, List.set_cons_zero, List.set_cons_succ]
        refine wpAnyH_take (i := 2) (oi := { dst := some 57, op := _, type := _, pos := _, after := _, guard := _ }) (v := ?_) rfl (by kernel_rfl) (by kernel_rfl) (by kernel_rfl) (fun _ _ _ h => h) (Or.inl ⟨by kernel_rfl, ?_⟩) (by assumption) ?_
        rotate_left
        · (intro w hSw; (try dsimp only at hSw); go_simp); all_goals (with_reducible rfl)
        try simp only [Act.put, List.setIfInBounds_toArray, List.set_cons_zero, List.set_cons_succ]
        refine wpAnyH_take (i := 3) (oi := { dst := some 58, op := _, type := _, pos := _, after := _, guard := _ }) (v := ?_) rfl (by kernel_rfl) (by kernel_rfl) (by kernel_rfl) (fun _ _ _ h => h) (Or.inl ⟨by kernel_rfl, ?_⟩) (by assumption) ?_
        rotate_left
        · (intro w hSw; (try dsimp only at hSw); go_simp); all_goals (with_reducible rfl)
        try simp only [Act.put, List.setIfInBounds_toArray, List.set_cons_zero, List.set_cons_succ]
        refine wpAnyH_take (i := 4) (oi := { dst := some 59, op := _, type := _, pos := _, after := _, guard := _ }) (v := ?_) rfl (by kernel_rfl) (by kernel_rfl) (by kernel_rfl) (fun _ _ _ h => h) (Or.inl ⟨by kernel_rfl, ?_⟩) (by assumption) ?_
        rotate_left
        · (intro w hSw; (try dsimp only at hSw); go_simp); all_goals (with_reducible rfl)
        try simp only [Act.put, List.setIfInBounds_toArray, List.set_cons_zero, List.set_cons_succ]
        refine wpAnyH_take (i := 5) (oi := { dst := some 60, op := _, type := _, pos := _, after := _, guard := _ }) (v := ?_) rfl (by kernel_rfl) (by kernel_rfl) (by kernel_rfl) (fun _ _ _ h => h) (Or.inl ⟨by kernel_rfl, ?_⟩) (by assumption) ?_
        rotate_left
        · (intro w hSw; (try dsimp only at hSw); go_simp); all_goals (with_reducible rfl)
        try simp only [Act.put, List.setIfInBounds_toArray, List.set_cons_zero, List.set_cons_succ]
        refine wpAnyH_ready (rs := [6]) (by kernel_rfl) (by simp) ?_
        refine (AllReadyH.cons (o := { dst := some 61, op := _, type := _, pos := _, after := _, guard := _ }) rfl (fun K hK => ?_) AllReadyH.nil)
        rw [if_pos (by kernel_rfl)]
        refine wp_call_go Tryd.func20 (by kernel_rfl) (by kernel_rfl) (xs := [.tmp 56, .tmp 57, .tmp 58, .tmp 59, .tmp 60]) (by rfl) (vs := [.slice a0 ps.length c0, .string ⟨pre.toArray⟩, .string ⟨delim.toArray⟩, .string ⟨after.toArray⟩, .int .i64 most]) (HD1.out _ (BW1.out.trans (hS0.mono BW1.out.size))) (by rfl) ?_
        rintro e w' ⟨vr', qs', rfl, hq', hr', hb'⟩
        obtain ⟨ar', cr', rfl⟩ := own_form hr'.own
        have HQ' := Lib.hid hq'
        have HI' := Lib.hid (own_rowsIn hq' hr' OK1.out)
        refine ⟨_, rfl, ?_⟩
        refine hK.out _ w' (hS0.trans (hb'.mono hS0.size)) (fun hSe => ?_)
        clear hq' hr' hb'
        clear hK K
        try simp only [Act.put, List.setIfInBounds_toArray, List.set_cons_zero, List.set_cons_succ]
        refine wpAnyH_ready (rs := [7]) (by kernel_rfl) (by simp) ?_
        refine (AllReadyH.cons (o := { dst := some 62, op := _, type := _, pos := _, after := _, guard := _ }) rfl (fun K hK => ?_) AllReadyH.nil)
        rw [if_pos (by kernel_rfl)]
        refine wp_call_go Tryd.func19 (by kernel_rfl) (by kernel_rfl) (xs := [.tmp 55, .tmp 61]) (by rfl) (vs := [.agg #[.slice ar1 qs1.length cr1, .bool pg1.more, .string ⟨pg1.next.toArray⟩, .int .i64 pg1.entry], .agg #[.slice ar' qs'.length cr', .bool pg1.more, .string ⟨pg1.next.toArray⟩, .int .i64 pg1.entry]]) (rSamePage_any pg1.more pg1.next pg1.entry _ (P1.out.says.trans HQ'.out.symm) ((P1.out.later hSe).rowsIn OK1.out).1 HI'.out (P1.out.rowsIn OK1.out).2) (by rfl) ?_
        rintro e w'' ⟨rfl, hb''⟩
        refine ⟨_, rfl, ?_⟩
        refine hK.out _ w'' (hSe.trans (hb''.mono hSe.size)) (fun hSf => ?_)
        clear hK K
        try simp only [Act.put, List.setIfInBounds_toArray, List.set_cons_zero, List.set_cons_succ]
        refine wpAnyH_take (i := 8) (oi := { dst := some 20, op := _, type := _, pos := _, after := _, guard := _ }) (v := ?_) rfl (by kernel_rfl) (by kernel_rfl) (by kernel_rfl) (fun _ _ _ h => h) (Or.inl ⟨by kernel_rfl, ?_⟩) (by assumption) ?_
        rotate_left
        · (intro w hSw; (try dsimp only at hSw); go_simp); all_goals (with_reducible rfl)
        try simp only [Act.put, List.setIfInBounds_toArray, List.set_cons_zero, List.set_cons_succ]
        refine wpAnyH_done (by kernel_rfl) ?_ _
        go_wp2_with fail
        go_meet
        case rel => exact ⟨rfl, hSf⟩
      rotate_left
      obtain ⟨rfl, HW⟩ := hcut
      have P1 := Lib.hid (P1.out.later HW.out)
      have P2 := Lib.hid (P2.out.later HW.out)
      have P3 := Lib.hid (P3.out.later HW.out)
      have HB4 := Lib.hid (HB3.out.trans (HW.out.mono HB3.out.size))
      clear HW BW1
      generalize wc = W4 at *
      have BW2 := Lib.hid (B2.out.trans (HB4.out.mono B2.out.size))
      go_upto_region 11 with (fail)
      go_cut [21] (fun s wx => s = .bool true ∧ Hid (Below W4.heap.size W4 wx))
      case first =>
        refine wp_region_held_drew (S := (fun W : World => Below W4.heap.size W4 W)) (by kernel_rfl) (Below.refl _ _).drew (fun hS0 => ?_)
        refine wpAnyH_take (i := 0) (oi := { dst := some 63, op := _, type := _, pos := _, after := _, guard := _ }) (v := .agg ([.slice ar2 qs2.length cr2, .bool pg2.more, .string ⟨pg2.next.toArray⟩, .int .i64 pg2.entry]).toArray) rfl (by kernel_rfl) (by kernel_rfl) (by kernel_rfl) (fun _ _ _ h => h) (yieldsIf_load_mid (by kernel_rfl) 26 _ (by rfl) gp2 (0) (by rfl) ([.slice ar2 qs2.length cr2, .bool pg2.more, .string ⟨pg2.next.toArray⟩, .int .i64 pg2.entry]) _ (fun w hSw => by (try dsimp only at hSw); exact (P2.out.later hSw).range) Tryd.underlying26 rfl (by rfl)) (by assumption) ?_
        try simp only [Act.put, List.setIfInBounds_toArray, List.set_cons_zero, List.set_cons_succ]
        refine wpAnyH_take (i := 1) (oi := { dst := some 64, op := _, type := _, pos := _, after := _, guard := _ }) (v := ?_) rfl (by kernel_rfl) (by kernel_rfl) (by kernel_rfl) (fun _ _ _ h => h) (Or.inl ⟨by kernel_rfl, ?_⟩) (by assumption) ?_
        rotate_left
        · (intro w hSw; (try dsimp only at hSw); go_simp); all_goals (with_reducible rfl)
        try simp only [Act.put, List.setIfInBounds_toArray, List.set_cons_zero, List.set_cons_succ]
        refine wpAnyH_take (i := 2) (oi := { dst := some 65, op := _, type := _, pos := _, after := _, guard := _ }) (v := ?_) rfl (by kernel_rfl) (by kernel_rfl) (by kernel_rfl) (fun _ _ _ h => h) (Or.inl ⟨by kernel_rfl, ?_⟩) (by assumption) ?_
        rotate_left
        · (intro w hSw; (try dsimp only at hSw); go_simp); all_goals (with_reducible rfl)
        try simp only [Act.put, List.setIfInBounds_toArray, List.set_cons_zero, List.set_cons_succ]
        refine wpAnyH_take (i := 3) (oi := { dst := some 66, op := _, type := _, pos := _, after := _, guard := _ }) (v := ?_) rfl (by kernel_rfl) (by kernel_rfl) (by kernel_rfl) (fun _ _ _ h => h) (Or.inl ⟨by kernel_rfl, ?_⟩) (by assumption) ?_
        rotate_left
        · (intro w hSw; (try dsimp only at hSw); go_simp); all_goals (with_reducible rfl)
        try simp only [Act.put, List.setIfInBounds_toArray, List.set_cons_zero, List.set_cons_succ]
        refine wpAnyH_take (i := 4) (oi := { dst := some 67, op := _, type := _, pos := _, after := _, guard := _ }) (v := ?_) rfl (by kernel_rfl) (by kernel_rfl) (by kernel_rfl) (fun _ _ _ h => h) (Or.inl ⟨by kernel_rfl, ?_⟩) (by assumption) ?_
        rotate_left
        · (intro w hSw; (try dsimp only at hSw); go_simp); all_goals (with_reducible rfl)
        try simp only [Act.put, List.setIfInBounds_toArray, List.set_cons_zero, List.set_cons_succ]
        refine wpAnyH_take (i := 5) (oi := { dst := some 68, op := _, type := _, pos := _, after := _, guard := _ }) (v := ?_) rfl (by kernel_rfl) (by kernel_rfl) (by kernel_rfl) (fun _ _ _ h => h) (Or.inl ⟨by kernel_rfl, ?_⟩) (by assumption) ?_
        rotate_left
        · (intro w hSw; (try dsimp only at hSw); go_simp); all_goals (with_reducible rfl)
        try simp only [Act.put, List.setIfInBounds_toArray, List.set_cons_zero, List.set_cons_succ]
        refine wpAnyH_take (i := 6) (oi := { dst := some 69, op := _, type := _, pos := _, after := _, guard := _ }) (v := ?_) rfl (by kernel_rfl) (by kernel_rfl) (by kernel_rfl) (fun _ _ _ h => h) (Or.inl ⟨by kernel_rfl, ?_⟩) (by assumption) ?_
        rotate_left
        · (intro w hSw; (try dsimp only at hSw); go_simp); all_goals (with_reducible rfl)
        try simp only [Act.put, List.setIfInBounds_toArray, List.set_cons_zero, List.set_cons_succ]
        refine wpAnyH_ready (rs := [7]) (by kernel_rfl) (by simp) ?_
        refine (AllReadyH.cons (o := { dst := some 70, op := _, type := _, pos := _, after := _, guard := _ }) rfl (fun K hK => ?_) AllReadyH.nil)
        rw [if_pos (by kernel_rfl)]
        refine wp_call_go Tryd.func21 (by kernel_rfl) (by kernel_rfl) (xs := [.tmp 64, .tmp 65, .tmp 66, .tmp 67, .tmp 68, .tmp 69]) (by rfl) (vs := [.slice a0 ps.length c0, .string ⟨pre.toArray⟩, .string ⟨delim.toArray⟩, .string ⟨after.toArray⟩, .int .i64 seq, .int .i64 most]) (HD2.out _ (BW2.out.trans (hS0.mono BW2.out.size))) (by rfl) ?_
        rintro e w' ⟨vr', qs', rfl, hq', hr', hb'⟩
        obtain ⟨ar', cr', rfl⟩ := own_form hr'.own
        have HQ' := Lib.hid hq'
        have HI' := Lib.hid (own_rowsIn hq' hr' OK2.out)
        refine ⟨_, rfl, ?_⟩
        refine hK.out _ w' (hS0.trans (hb'.mono hS0.size)) (fun hSe => ?_)
        clear hq' hr' hb'
        clear hK K
        try simp only [Act.put, List.setIfInBounds_toArray, List.set_cons_zero, List.set_cons_succ]
        refine wpAnyH_ready (rs := [8]) (by kernel_rfl) (by simp) ?_
        refine (AllReadyH.cons (o := { dst := some 71, op := _, type := _, pos := _, after := _, guard := _ }) rfl (fun K hK => ?_) AllReadyH.nil)
        rw [if_pos (by kernel_rfl)]
        refine wp_call_go Tryd.func19 (by kernel_rfl) (by kernel_rfl) (xs := [.tmp 63, .tmp 70]) (by rfl) (vs := [.agg #[.slice ar2 qs2.length cr2, .bool pg2.more, .string ⟨pg2.next.toArray⟩, .int .i64 pg2.entry], .agg #[.slice ar' qs'.length cr', .bool pg2.more, .string ⟨pg2.next.toArray⟩, .int .i64 pg2.entry]]) (rSamePage_any pg2.more pg2.next pg2.entry _ (P2.out.says.trans HQ'.out.symm) ((P2.out.later hSe).rowsIn OK2.out).1 HI'.out (P2.out.rowsIn OK2.out).2) (by rfl) ?_
        rintro e w'' ⟨rfl, hb''⟩
        refine ⟨_, rfl, ?_⟩
        refine hK.out _ w'' (hSe.trans (hb''.mono hSe.size)) (fun hSf => ?_)
        clear hK K
        try simp only [Act.put, List.setIfInBounds_toArray, List.set_cons_zero, List.set_cons_succ]
        refine wpAnyH_take (i := 9) (oi := { dst := some 21, op := _, type := _, pos := _, after := _, guard := _ }) (v := ?_) rfl (by kernel_rfl) (by kernel_rfl) (by kernel_rfl) (fun _ _ _ h => h) (Or.inl ⟨by kernel_rfl, ?_⟩) (by assumption) ?_
        rotate_left
        · (intro w hSw; (try dsimp only at hSw); go_simp); all_goals (with_reducible rfl)
        try simp only [Act.put, List.setIfInBounds_toArray, List.set_cons_zero, List.set_cons_succ]
        refine wpAnyH_done (by kernel_rfl) ?_ _
        go_wp2_with fail
        go_meet
        case rel => exact ⟨rfl, hSf⟩
      rotate_left
      obtain ⟨rfl, HW⟩ := hcut
      have P1 := Lib.hid (P1.out.later HW.out)
      have P2 := Lib.hid (P2.out.later HW.out)
      have P3 := Lib.hid (P3.out.later HW.out)
      have HB5 := Lib.hid (HB4.out.trans (HW.out.mono HB4.out.size))
      clear HW BW2
      generalize wc = W5 at *
      have BW3 := Lib.hid (B2.out.trans (HB5.out.mono B2.out.size))
      go_upto_region 12 with (fail)
      go_cut [22] (fun s wx => s = .bool true ∧ Hid (Below W5.heap.size W5 wx))
      case first =>
        refine wp_region_held_drew (S := (fun W : World => Below W5.heap.size W5 W)) (by kernel_rfl) (Below.refl _ _).drew (fun hS0 => ?_)
        refine wpAnyH_take (i := 0) (oi := { dst := some 72, op := _, type := _, pos := _, after := _, guard := _ }) (v := .agg ([.slice ar3 qs3.length cr3, .bool pg3.more, .string ⟨pg3.next.toArray⟩, .int .i64 pg3.entry]).toArray) rfl (by kernel_rfl) (by kernel_rfl) (by kernel_rfl) (fun _ _ _ h => h) (yieldsIf_load_mid (by kernel_rfl) 26 _ (by rfl) gp3 (0) (by rfl) ([.slice ar3 qs3.length cr3, .bool pg3.more, .string ⟨pg3.next.toArray⟩, .int .i64 pg3.entry]) _ (fun w hSw => by (try dsimp only at hSw); exact (P3.out.later hSw).range) Tryd.underlying26 rfl (by rfl)) (by assumption) ?_
        try simp only [Act.put, List.setIfInBounds_toArray, List.set_cons_zero, List.set_cons_succ]
        refine wpAnyH_take (i := 1) (oi := { dst := some 73, op := _, type := _, pos := _, after := _, guard := _ }) (v := ?_) rfl (by kernel_rfl) (by kernel_rfl) (by kernel_rfl) (fun _ _ _ h => h) (Or.inl ⟨by kernel_rfl, ?_⟩) (by assumption) ?_
        rotate_left
        · (intro w hSw; (try dsimp only at hSw); go_simp); all_goals (with_reducible rfl)
        try simp only [Act.put, List.setIfInBounds_toArray, List.set_cons_zero, List.set_cons_succ]
        refine wpAnyH_take (i := 2) (oi := { dst := some 74, op := _, type := _, pos := _, after := _, guard := _ }) (v := ?_) rfl (by kernel_rfl) (by kernel_rfl) (by kernel_rfl) (fun _ _ _ h => h) (Or.inl ⟨by kernel_rfl, ?_⟩) (by assumption) ?_
        rotate_left
        · (intro w hSw; (try dsimp only at hSw); go_simp); all_goals (with_reducible rfl)
        try simp only [Act.put, List.setIfInBounds_toArray, List.set_cons_zero, List.set_cons_succ]
        refine wpAnyH_take (i := 3) (oi := { dst := some 75, op := _, type := _, pos := _, after := _, guard := _ }) (v := ?_) rfl (by kernel_rfl) (by kernel_rfl) (by kernel_rfl) (fun _ _ _ h => h) (Or.inl ⟨by kernel_rfl, ?_⟩) (by assumption) ?_
        rotate_left
        · (intro w hSw; (try dsimp only at hSw); go_simp); all_goals (with_reducible rfl)
        try simp only [Act.put, List.setIfInBounds_toArray, List.set_cons_zero, List.set_cons_succ]
        refine wpAnyH_take (i := 4) (oi := { dst := some 76, op := _, type := _, pos := _, after := _, guard := _ }) (v := ?_) rfl (by kernel_rfl) (by kernel_rfl) (by kernel_rfl) (fun _ _ _ h => h) (Or.inl ⟨by kernel_rfl, ?_⟩) (by assumption) ?_
        rotate_left
        · (intro w hSw; (try dsimp only at hSw); go_simp); all_goals (with_reducible rfl)
        try simp only [Act.put, List.setIfInBounds_toArray, List.set_cons_zero, List.set_cons_succ]
        refine wpAnyH_take (i := 5) (oi := { dst := some 77, op := _, type := _, pos := _, after := _, guard := _ }) (v := ?_) rfl (by kernel_rfl) (by kernel_rfl) (by kernel_rfl) (fun _ _ _ h => h) (Or.inl ⟨by kernel_rfl, ?_⟩) (by assumption) ?_
        rotate_left
        · (intro w hSw; (try dsimp only at hSw); go_simp); all_goals (with_reducible rfl)
        try simp only [Act.put, List.setIfInBounds_toArray, List.set_cons_zero, List.set_cons_succ]
        refine wpAnyH_take (i := 6) (oi := { dst := some 78, op := _, type := _, pos := _, after := _, guard := _ }) (v := ?_) rfl (by kernel_rfl) (by kernel_rfl) (by kernel_rfl) (fun _ _ _ h => h) (Or.inl ⟨by kernel_rfl, ?_⟩) (by assumption) ?_
        rotate_left
        · (intro w hSw; (try dsimp only at hSw); go_simp); all_goals (with_reducible rfl)
        try simp only [Act.put, List.setIfInBounds_toArray, List.set_cons_zero, List.set_cons_succ]
        refine wpAnyH_ready (rs := [7]) (by kernel_rfl) (by simp) ?_
        refine (AllReadyH.cons (o := { dst := some 79, op := _, type := _, pos := _, after := _, guard := _ }) rfl (fun K hK => ?_) AllReadyH.nil)
        rw [if_pos (by kernel_rfl)]
        refine wp_call_go Tryd.func22 (by kernel_rfl) (by kernel_rfl) (xs := [.tmp 73, .tmp 74, .tmp 75, .tmp 76, .tmp 77, .tmp 78]) (by rfl) (vs := [.slice a0 ps.length c0, .string ⟨pre.toArray⟩, .string ⟨delim.toArray⟩, .string ⟨after.toArray⟩, .int .i64 seq, .int .i64 most]) (HD3.out _ (BW3.out.trans (hS0.mono BW3.out.size))) (by rfl) ?_
        rintro e w' ⟨vr', qs', rfl, hq', hr', hb'⟩
        obtain ⟨ar', cr', rfl⟩ := own_form hr'.own
        have HQ' := Lib.hid hq'
        have HI' := Lib.hid (own_rowsIn hq' hr' OK3.out)
        refine ⟨_, rfl, ?_⟩
        refine hK.out _ w' (hS0.trans (hb'.mono hS0.size)) (fun hSe => ?_)
        clear hq' hr' hb'
        clear hK K
        try simp only [Act.put, List.setIfInBounds_toArray, List.set_cons_zero, List.set_cons_succ]
        refine wpAnyH_ready (rs := [8]) (by kernel_rfl) (by simp) ?_
        refine (AllReadyH.cons (o := { dst := some 80, op := _, type := _, pos := _, after := _, guard := _ }) rfl (fun K hK => ?_) AllReadyH.nil)
        rw [if_pos (by kernel_rfl)]
        refine wp_call_go Tryd.func19 (by kernel_rfl) (by kernel_rfl) (xs := [.tmp 72, .tmp 79]) (by rfl) (vs := [.agg #[.slice ar3 qs3.length cr3, .bool pg3.more, .string ⟨pg3.next.toArray⟩, .int .i64 pg3.entry], .agg #[.slice ar' qs'.length cr', .bool pg3.more, .string ⟨pg3.next.toArray⟩, .int .i64 pg3.entry]]) (rSamePage_any pg3.more pg3.next pg3.entry _ (P3.out.says.trans HQ'.out.symm) ((P3.out.later hSe).rowsIn OK3.out).1 HI'.out (P3.out.rowsIn OK3.out).2) (by rfl) ?_
        rintro e w'' ⟨rfl, hb''⟩
        refine ⟨_, rfl, ?_⟩
        refine hK.out _ w'' (hSe.trans (hb''.mono hSe.size)) (fun hSf => ?_)
        clear hK K
        try simp only [Act.put, List.setIfInBounds_toArray, List.set_cons_zero, List.set_cons_succ]
        refine wpAnyH_take (i := 9) (oi := { dst := some 22, op := _, type := _, pos := _, after := _, guard := _ }) (v := ?_) rfl (by kernel_rfl) (by kernel_rfl) (by kernel_rfl) (fun _ _ _ h => h) (Or.inl ⟨by kernel_rfl, ?_⟩) (by assumption) ?_
        rotate_left
        · (intro w hSw; (try dsimp only at hSw); go_simp); all_goals (with_reducible rfl)
        try simp only [Act.put, List.setIfInBounds_toArray, List.set_cons_zero, List.set_cons_succ]
        refine wpAnyH_done (by kernel_rfl) ?_ _
        go_wp2_with fail
        go_meet
        case rel => exact ⟨rfl, hSf⟩
      rotate_left
      obtain ⟨rfl, HW⟩ := hcut
      have P1 := Lib.hid (P1.out.later HW.out)
      have P2 := Lib.hid (P2.out.later HW.out)
      have P3 := Lib.hid (P3.out.later HW.out)
      have HB6 := Lib.hid (HB5.out.trans (HW.out.mono HB5.out.size))
      clear HW BW3
      generalize wc = W6 at *
      go_upto_region 15 with (fail)
      go_wp2_with (refine wpList_load_row (by rfl) 26 _ (by rfl) gp1 (by rfl) 26 (pgC (.slice ar1 qs1.length cr1) pg1) (0, 0) _ (by exact P1.out.page) Tryd.underlying26 rfl (by kernel_rfl) ?_)
      refine (spoil_any (p := pg1) P1.out.own P1.out.ob (by have := P1.out.lt; have := P1.out.ord; omega) (by have := (P1.out.rowsIn OK1.out).2; omega) (fun q hq => OK1.out.size _ (by rw [← P1.out.says]; exact List.mem_map_of_mem hq))).mono ?_
      rintro e V1 ⟨⟨ve, rfl⟩, C1⟩
      have P2 := Lib.hid (P2.out.chg C1 (by omega))
      have P3 := Lib.hid (P3.out.chg C1 (by omega))
      go_wp2_with (refine wpList_load_row (by rfl) 26 _ (by rfl) gp2 (by rfl) 26 (pgC (.slice ar2 qs2.length cr2) pg2) (0, 0) _ (by exact P2.out.page) Tryd.underlying26 rfl (by kernel_rfl) ?_)
      refine (spoil_any (p := pg2) P2.out.own P2.out.ob (by have := P2.out.lt; have := P2.out.ord; omega) (by have := (P2.out.rowsIn OK2.out).2; omega) (fun q hq => OK2.out.size _ (by rw [← P2.out.says]; exact List.mem_map_of_mem hq))).mono ?_
      rintro e V2 ⟨⟨ve, rfl⟩, C2⟩
      have P3 := Lib.hid (P3.out.chg C2 (by omega))
      go_wp2_with (refine wpList_load_row (by rfl) 26 _ (by rfl) gp3 (by rfl) 26 (pgC (.slice ar3 qs3.length cr3) pg3) (0, 0) _ (by exact P3.out.page) Tryd.underlying26 rfl (by kernel_rfl) ?_)
      refine (spoil_any (p := pg3) P3.out.own P3.out.ob (by have := P3.out.lt; have := P3.out.ord; omega) (by have := (P3.out.rowsIn OK3.out).2; omega) (fun q hq => OK3.out.size _ (by rw [← P3.out.says]; exact List.mem_map_of_mem hq))).mono ?_
      rintro e V3 ⟨⟨ve, rfl⟩, C3⟩
      have hw2 := HB.out.size
      have E1 : Below w2.heap.size W6 V1 := C1.below HB6.out.size (fun k hk => by omega)
      have E2 : Below w2.heap.size V1 V2 := C2.below (Nat.le_trans HB6.out.size E1.size) (fun k hk => by omega)
      have E3 : Below w2.heap.size V2 V3 := C3.below (Nat.le_trans HB6.out.size (Nat.le_trans E1.size E2.size)) (fun k hk => by omega)
      have HE := Lib.hid (HB6.out.trans (E1.trans (E2.trans E3)))
      clear E1 E2 E3 C1 C2 C3
      go_wp2_with fail
      go_roundg (2 - (t + 1))
      case measure => omega
      case rel => exact ⟨t + 1, by omega, Nat.le_refl _, vnext, HE.out⟩
    · obtain rfl : t = 2 := by omega
      go_wp2_with fail
      refine (still_any _ HXD.out (HX.out.later HB.out) (HR.out.later (B2.out.trans (HB.out.mono B2.out.size))) hl).mono ?_
      rintro e w9 ⟨rfl, hb9⟩
      have HE : Hid (Below w.heap.size w w9) := by
        have h1 := B2.out.trans (HB.out.mono B2.out.size)
        exact h1.trans (hb9.mono h1.size)
      clear hb9
      go_wp2_with fail
      go_ret
      exact ⟨rfl, HE.out⟩
end Go.Proofs.YtgklbmcnpnmkkaaDoor
