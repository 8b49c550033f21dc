/-
  SEVERAL SMALL TEXTS IN ONE.
-/
import Derived.Test.YtgmgghbocidibaaGreatDoorXmBuild
import Derived.Defers
import Derived.Laws.Pointers
import Derived.Laws.LoneSync
import Derived.RegionTactic
import Derived.RegionCalls
import Derived.ChangeAlike
import Derived.Test.YtgmgghbocidibaaGreatDoorXmLaw3
/-
  strings: (*Replacer).Replace: sync.Once, then the replacer that was built.
-/
namespace Go.Proofs.YtgmgghbocidibaaGreatDoor
open Go.RowKit Go.Lib Go.PlainAid

theorem x_disable (w : World) : (callFunc 119 #[]).run Tryz.prog w = .ok (.value (.tuple #[])) w := run_call_mark0 Tryz.func119 (by kernel_rfl) (by kernel_rfl) (by kernel_rfl) .disable (by kernel_rfl) w
theorem x_enable (w : World) : (callFunc 121 #[]).run Tryz.prog w = .ok (.value (.tuple #[])) w := run_call_mark0 Tryz.func121 (by kernel_rfl) (by kernel_rfl) (by kernel_rfl) .enable (by kernel_rfl) w
theorem x_acquire (a : Addr) (w : World) : (callFunc 122 #[.pointer (some a)]).run Tryz.prog w = .ok (.value (.tuple #[])) w := run_call_marked Tryz.func122 (by kernel_rfl) (by kernel_rfl) (by kernel_rfl) .acquire (by kernel_rfl) a w
theorem x_releaseMerge (a : Addr) (w : World) : (callFunc 124 #[.pointer (some a)]).run Tryz.prog w = .ok (.value (.tuple #[])) w := run_call_marked Tryz.func124 (by kernel_rfl) (by kernel_rfl) (by kernel_rfl) .releaseMerge (by kernel_rfl) a w

set_option maxRecDepth 100000 in
set_option maxHeartbeats 1600000 in
theorem x_store_deferred (a : Addr) (x : Value) (u : FrameMode) (w : World) (hc : w.cell? a = some x) (hz : w.frozen? a = false) :
    CallsD Tryz.prog 89 #[.pointer (some a), .bool true] u w fun e u' w' => u' = u ∧ (e = .returned (.tuple #[]) ∧ w' = w.drew.setCell a (.int .u32 1)) := by
  have hc' : w.drew.cell? a = some x := by go_simp
  have hz' : w.drew.frozen? a = false := by go_simp
  have hst := run_call_store (P := Tryz.prog) Tryz.func107 (by kernel_rfl) (by kernel_rfl) (by kernel_rfl) (by kernel_rfl) (k := .u32) (y := 1) hc' hz'
  go_enter_d Tryz.func89, Tryz.ntmps89
  go_wp2
  go_region_calls
  all_goals (go_end0; exact ⟨rfl, rfl⟩)

set_option maxRecDepth 100000 in
set_option maxHeartbeats 1600000 in
theorem x_unlock_deferred (a : Addr) (u : FrameMode) (w : World) (hc : w.cell? a = some (.int .i32 1)) (hz : w.frozen? a = false) :
    CallsD Tryz.prog 88 #[.pointer (some a)] u w fun e u' w' => u' = u ∧ (e = .returned (.tuple #[]) ∧ w' = w.setCell a (.int .i32 0)) := by
  have hd := x_disable
  have he := x_enable
  have hr := x_releaseMerge
  have hadd := run_call_add (P := Tryz.prog) Tryz.func125 (by kernel_rfl) (by kernel_rfl) (by kernel_rfl) .i32 (by kernel_rfl) (y := -1) (s := 0) hc hz (by simp [go_sem]; rfl)
  have hcv := run_convert_to_unsafe (P := Tryz.prog) (src := 188) (dst := 162) Tryz.underlying188 Tryz.underlying162 (by kernel_rfl) hc
  go_enter_d Tryz.func88, Tryz.ntmps88
  go_wp2
  go_end0
  all_goals (try go_wp2)
  all_goals (try go_end0)
  all_goals exact ⟨rfl, rfl⟩

set_option maxRecDepth 100000 in
set_option maxHeartbeats 1600000 in
theorem x_lock_free (a : Addr) (w : World) (hc : w.cell? a = some (.int .i32 0)) (hz : w.frozen? a = false) :
    Calls Tryz.prog 87 #[.pointer (some a)] w fun e w' => e = .returned (.tuple #[]) ∧ w' = w.setCell a (.int .i32 1) := by
  have hd := x_disable
  have he := x_enable
  have ha := x_acquire
  have hcas := run_call_cas_hit (P := Tryz.prog) Tryz.func120 (by kernel_rfl) (by kernel_rfl) (by kernel_rfl) .i32 (by kernel_rfl) (y := 1) hc hz
  have hc' : (w.setCell a (.int .i32 1)).cell? a = some (.int .i32 1) := World.cell?_setCell_same w a _ hc
  have hcv := run_convert_to_unsafe (P := Tryz.prog) (src := 188) (dst := 162) Tryz.underlying188 Tryz.underlying162 (by kernel_rfl) hc'
  go_enter Tryz.func87, Tryz.ntmps87
  go_wp2
  first | go_end0 | (simp only [Exit.inBlock, Exit.then]; refine bodyPost_ret (results_none rfl _ _ _) rfl ?_) | refine bodyPost_ret (results_none rfl _ _ _) rfl ?_
  all_goals (try go_wp2)
  all_goals (try go_end0)
  all_goals exact ⟨rfl, rfl⟩

theorem Bsr.widen {w : World} {Rb : Nat} {K K' : Nat → Prop} (h : Bsr w Rb K) (hk : ∀ k, K k → K' k) : Bsr w Rb K' := by
  refine ⟨h.no, fun x hx => ?_, ?_, hk _ h.own⟩
  · obtain ⟨q, c, h1, h2, h3⟩ := h.yes x hx
    exact ⟨q, c, h1, hk _ h2, h3⟩
  · obtain ⟨q, c, h1, h2, h3⟩ := h.rep
    exact ⟨q, c, h1, hk _ h2, h3⟩

set_option maxRecDepth 100000 in
set_option maxHeartbeats 4000000 in
theorem x_slow {w : World} {R g cp : Nat} {sm : Int} (h : w.heap[R]? = some (.cells (rpC 0 0 sm .nilIface (.slice (some ⟨g, 0, none⟩) 10 cp)) 90 (0, 0))) (hc : ∀ j v, onC[j]? = some v → w.cell? ⟨g, j, none⟩ = some v) (hgR : g ≠ R) :
    Calls Tryz.prog 72 #[.pointer (some ⟨R, 0, none⟩), .func (.func 55) #[.pointer (some ⟨R, 0, none⟩)] #[]] w fun e w' => e = .returned (.tuple #[]) ∧ ∃ Rb, w'.heap[R]? = some (.cells (rpC 1 0 sm (.iface 151 (.pointer (some ⟨Rb, 0, none⟩))) (.slice none 0 0)) 90 (0, 0)) ∧ Bsr w' Rb (fun k => w.heap.size ≤ k) ∧ Chg w w' (fun k => k = R) := by
  have h0 : w.cell? ⟨R, 0, none⟩ = some (.int .u32 0) := cell_at h rfl
  have h1 : w.cell? ⟨R, 1, none⟩ = some (.int .i32 0) := cell_at h rfl
  have f1 : w.frozen? ⟨R, 1, none⟩ = false := free_of_heap h
  have hx1 : (w.setCell ⟨R, 1, none⟩ (.int .i32 1)).heap[R]? = some (.cells (rpC 0 1 sm .nilIface (.slice (some ⟨g, 0, none⟩) 10 cp)) 90 (0, 0)) := by rw [heap_set h]; rfl
  have hl := run_call_load (P := Tryz.prog) Tryz.func86 (by kernel_rfl) (by kernel_rfl) (by kernel_rfl) .u32 (by kernel_rfl) (w := w.setCell ⟨R, 1, none⟩ (.int .i32 1)) (a := ⟨R, 0, none⟩) (x := 0) ((World.cell?_setCell_other _ ⟨R, 1, none⟩ ⟨R, 0, none⟩ _ (by simp)).trans h0)
  have hnot : ∀ (x : Bool) (w : World), (Op.unary .not (.bool x)).run Tryz.prog w = .ok (.bool (!x)) w := fun _ _ => rfl
  have HBO := Lib.hid (buildOnce_any hx1 (fun j v hj => (World.cell?_of_block (Below.heap_setCell _ _ _ _ (by show g ≠ R; exact hgR))).trans (hc j v hj)))
  have HLK := Lib.hid (x_lock_free ⟨R, 1, none⟩ w h1 f1)
  have M1 := Lib.hid (mine_set w R 1 (.int .i32 1))
  have HRW := Lib.hid (Array.getElem?_eq_some_iff.1 h).1
  clear h hx1 hc h0 h1 f1
  go_enter_defers Tryz.func72, Tryz.ntmps72
  go_wp2_with (first | (go_at_call 87; refine (HLK.out).mono ?_; rintro e w1 ⟨rfl, rfl⟩) | (go_at_call 71; go_in))
  refine (HBO.out).mono ?_
  rintro e w2 ⟨rfl, Rb, h2, hb2, hc2⟩
  have H2 := Lib.hid h2
  have HB2 := Lib.hid hb2
  have M2 := Lib.hid (M1.out.trans hc2)
  have k0 : w2.cell? ⟨R, 0, none⟩ = some (.int .u32 0) := cell_at h2 rfl
  have k1 : w2.cell? ⟨R, 1, none⟩ = some (.int .i32 1) := cell_at h2 rfl
  have z0 : w2.frozen? ⟨R, 0, none⟩ = false := free_of_heap h2
  have z1 : w2.frozen? ⟨R, 1, none⟩ = false := free_of_heap h2
  clear h2 hb2 hc2 hl
  go_wp2_with fail
  go_wp2
  refine leaves_cons (f := 89) (args := #[.pointer (some ⟨R, 0, none⟩), .bool true]) (by simp) (by simp [go_sem]) ?_
  refine (x_store_deferred ⟨R, 0, none⟩ (.int .u32 0) .returning w2 k0 z0).mono ?_
  rintro e u' w3 ⟨rfl, rfl, rfl⟩
  have H3 : Hid ((w2.drew.setCell ⟨R, 0, none⟩ (.int .u32 1)).heap[R]? = some (.cells (rpC 1 1 sm (.iface 151 (.pointer (some ⟨Rb, 0, none⟩))) (.slice none 0 0)) 90 (0, 0))) := by
    have h3 : w2.drew.heap[R]? = _ := H2.out
    show _ = _
    rw [heap_set h3]
    rfl
  have M3 : Hid (Mine R w2 (w2.drew.setCell ⟨R, 0, none⟩ (.int .u32 1))) := (Chg.of_below (Below.drew (Below.refl _ _))).trans (mine_set w2.drew R 0 _)
  have hRb : R < w2.heap.size := (Array.getElem?_eq_some_iff.1 H2.out).1
  generalize w2.drew.setCell ⟨R, 0, none⟩ (.int .u32 1) = w3 at *
  refine leaves_cons (f := 88) (args := #[.pointer (some ⟨R, 1, none⟩)]) (by simp [settle]) (by simp [go_sem]) ?_
  refine (x_unlock_deferred ⟨R, 1, none⟩ _ w3 (cell_at H3.out rfl) (free_of_heap H3.out)).mono ?_
  rintro e u' w4 ⟨rfl, rfl, rfl⟩
  have hbs : Bsr (w3.setCell ⟨R, 1, none⟩ (.int .i32 0)) Rb (fun k => w.heap.size ≤ k) := by
    have hRw : R < w.heap.size := HRW.out
    refine ((HB2.out).widen (K' := fun k => w.heap.size ≤ k) (fun k hk => by simpa [World.setCell] using hk)).kept (fun k hk hK => ?_)
    have hK' : w.heap.size ≤ k := hK
    rw [Below.heap_setCell _ _ _ _ (by show k ≠ R; omega)]
    exact M3.out.block k hk (by show k ≠ R; omega)
  have h4 : (w3.setCell ⟨R, 1, none⟩ (.int .i32 0)).heap[R]? = some (.cells (rpC 1 0 sm (.iface 151 (.pointer (some ⟨Rb, 0, none⟩))) (.slice none 0 0)) 90 (0, 0)) := by rw [heap_set H3.out]; rfl
  have hch : Mine R w (w3.setCell ⟨R, 1, none⟩ (.int .i32 0)) := (M2.out.trans M3.out).trans (mine_set _ _ _ _)
  have HFIN := Lib.hid (And.intro h4 (And.intro hbs hch))
  clear h4 hbs hch
  obtain ⟨w5, hw5⟩ : ∃ w5, w3.setCell ⟨R, 1, none⟩ (.int .i32 0) = w5 := ⟨_, rfl⟩
  rw [hw5] at HFIN ⊢
  clear hw5
  simp [Leaves, settle, results, Tryz.results72]
  exact ⟨Rb, HFIN.out.1, HFIN.out.2.1, HFIN.out.2.2⟩

/-- a replacer that has not been built, or has -/
inductive RepAt (w : World) (R : Nat) (K : Nat → Prop) : Prop
  | fresh (g cp : Nat) (sm : Int) (h : w.heap[R]? = some (.cells (rpC 0 0 sm .nilIface (.slice (some ⟨g, 0, none⟩) 10 cp)) 90 (0, 0))) (hc : ∀ j v, onC[j]? = some v → w.cell? ⟨g, j, none⟩ = some v) (hgR : g ≠ R) (hR : K R) (hg : K g)
  | built (Rb : Nat) (sm : Int) (h : w.heap[R]? = some (.cells (rpC 1 0 sm (.iface 151 (.pointer (some ⟨Rb, 0, none⟩))) (.slice none 0 0)) 90 (0, 0))) (hb : Bsr w Rb K) (hR : K R)
theorem RepAt.kept {w w' : World} {R : Nat} {K : Nat → Prop} (h : RepAt w R K) (hk : ∀ k, k < w.heap.size → K k → w'.heap[k]? = w.heap[k]?) : RepAt w' R K := by
  cases h with
  | fresh g cp sm h hc hgR hR hg => exact .fresh g cp sm ((hk R (Array.getElem?_eq_some_iff.1 h).1 hR).trans h) (fun j v hj => (World.cell?_of_block (hk g (World.block_lt_of_cell? _ _ (hc j v hj)) hg)).trans (hc j v hj)) hgR hR hg
  | built Rb sm h hb hR => exact .built Rb sm ((hk R (Array.getElem?_eq_some_iff.1 h).1 hR).trans h) (hb.kept hk) hR

set_option maxRecDepth 100000 in
set_option maxHeartbeats 4000000 in
theorem x_do_first {w : World} {R g cp : Nat} {sm : Int} (h : w.heap[R]? = some (.cells (rpC 0 0 sm .nilIface (.slice (some ⟨g, 0, none⟩) 10 cp)) 90 (0, 0))) (hc : ∀ j v, onC[j]? = some v → w.cell? ⟨g, j, none⟩ = some v) (hgR : g ≠ R) :
    Calls Tryz.prog 54 #[.pointer (some ⟨R, 0, none⟩), .func (.func 55) #[.pointer (some ⟨R, 0, none⟩)] #[]] w fun e w' => e = .returned (.tuple #[]) ∧ ∃ Rb, w'.heap[R]? = some (.cells (rpC 1 0 sm (.iface 151 (.pointer (some ⟨Rb, 0, none⟩))) (.slice none 0 0)) 90 (0, 0)) ∧ Bsr w' Rb (fun k => w.heap.size ≤ k) ∧ Chg w w' (fun k => k = R) := by
  have h0 : w.cell? ⟨R, 0, none⟩ = some (.int .u32 0) := cell_at h rfl
  have hl := run_call_load (P := Tryz.prog) Tryz.func86 (by kernel_rfl) (by kernel_rfl) (by kernel_rfl) .u32 (by kernel_rfl) h0
  have hnot : ∀ (x : Bool) (w : World), (Op.unary .not (.bool x)).run Tryz.prog w = .ok (.bool (!x)) w := fun _ _ => rfl
  have HS := Lib.hid (x_slow h hc hgR)
  clear h hc
  go_enter Tryz.func54, Tryz.ntmps54
  go_wp2_with (go_at_call 71; go_in)
  refine (HS.out).mono ?_
  rintro e w2 ⟨rfl, Rb, h2⟩
  have H2 := Lib.hid h2
  clear h2 hl h0
  go_wp2_with fail
  go_end0
  exact ⟨rfl, Rb, H2.out⟩
set_option maxRecDepth 100000 in
set_option maxHeartbeats 4000000 in
theorem x_do_done {w : World} {R : Nat} {sm : Int} {rv ov : Value} (h : w.heap[R]? = some (.cells (rpC 1 0 sm rv ov) 90 (0, 0))) (fv : Value) :
    Calls Tryz.prog 54 #[.pointer (some ⟨R, 0, none⟩), fv] w fun e w' => e = .returned (.tuple #[]) ∧ w' = w := by
  have h0 : w.cell? ⟨R, 0, none⟩ = some (.int .u32 1) := cell_at h rfl
  have hl := run_call_load (P := Tryz.prog) Tryz.func86 (by kernel_rfl) (by kernel_rfl) (by kernel_rfl) .u32 (by kernel_rfl) h0
  have hnot : ∀ (x : Bool) (w : World), (Op.unary .not (.bool x)).run Tryz.prog w = .ok (.bool (!x)) w := fun _ _ => rfl
  clear h
  go_enter Tryz.func54, Tryz.ntmps54
  go_wp2_with (go_at_call 71; go_in)
  go_end0
  exact ⟨rfl, rfl⟩

set_option maxRecDepth 100000 in
set_option maxHeartbeats 4000000 in
/-- Replace -/
theorem replace_any {w : World} {R : Nat} {K : Nat → Prop} (h : RepAt w R K) (hK : ∀ k, K k → k < w.heap.size) (S : ByteArray) (hS : S.size ≤ 4000000) :
    Calls Tryz.prog 37 #[.pointer (some ⟨R, 0, none⟩), .string S] w fun e w' => e = .returned (.string ⟨(escL S.data.toList).toArray⟩) ∧ RepAt w' R (fun k => K k ∨ w.heap.size ≤ k) ∧ Chg w w' (fun k => k = R) := by
  have hmf : ∀ (fn : Fn) (first cap : Array Value) (w : World), (Instr.makeFunc fn first cap).run Tryz.prog w = .ok (.func fn first cap) w := fun _ _ _ _ => rfl
  cases h with
  | fresh g cp sm h hc hgR hR hg =>
    have HDO := Lib.hid (x_do_first h hc hgR)
    have HKR := Lib.hid (hK R hR)
    clear h hc
    go_enter Tryz.func37, Tryz.ntmps37
    go_wp2_with fail
    refine (HDO.out).mono ?_
    rintro e w1 ⟨rfl, Rb, h1, hb1, hc1⟩
    have k3 : w1.cell? ⟨R, 3, none⟩ = some (.iface 151 (.pointer (some ⟨Rb, 0, none⟩))) := cell_at h1 rfl
    have HBR := Lib.hid (bsr_any hb1 S hS)
    have H1 := Lib.hid h1
    have HB1 := Lib.hid hb1
    have HC1 := Lib.hid hc1
    clear h1 hb1 hc1
    go_wp2_with fail
    refine (HBR.out).mono ?_
    rintro e w2 ⟨rfl, hb2⟩
    have H2 := Lib.hid ((hb2.block R (Array.getElem?_eq_some_iff.1 H1.out).1).trans H1.out)
    have HB2 := Lib.hid (HB1.out.later hb2)
    have HC2 := Lib.hid (Chg.below_on HC1.out hb2)
    clear hb2 k3
    go_wp2_with fail
    go_ret
    exact ⟨rfl, .built Rb sm H2.out (HB2.out.widen fun k hk => .inr hk) (.inl hR), HC2.out⟩
  | built Rb sm h hb hR =>
    have HDO := Lib.hid (fun fv => x_do_done h fv)
    have k3 : w.cell? ⟨R, 3, none⟩ = some (.iface 151 (.pointer (some ⟨Rb, 0, none⟩))) := cell_at h rfl
    have HBR := Lib.hid (bsr_any hb S hS)
    have H1 := Lib.hid h
    have HB1 := Lib.hid hb
    clear h hb
    go_enter Tryz.func37, Tryz.ntmps37
    go_wp2_with fail
    refine (HDO.out _).mono ?_
    rintro e w1 ⟨rfl, rfl⟩
    go_wp2_with fail
    refine (HBR.out).mono ?_
    rintro e w2 ⟨rfl, hb2⟩
    have H2 := Lib.hid ((hb2.block R (Array.getElem?_eq_some_iff.1 H1.out).1).trans H1.out)
    have HB2 := Lib.hid (HB1.out.later hb2)
    have HC2 : Hid (Chg w1 w2 (fun k => k = R)) := Chg.of_below hb2
    clear hb2 k3
    go_wp2_with fail
    go_ret
    exact ⟨rfl, .built Rb sm H2.out (HB2.out.widen fun k hk => .inl hk) (.inl hR), HC2.out⟩
end Go.Proofs.YtgmgghbocidibaaGreatDoor

/-
  xml.write, plain: what is written behind what was there, and how it stops when it is long.
-/
namespace Go.Proofs.YtgmgghbocidibaaGreatDoor

mutual
def wrT : Tree → Bs → Bs
  | .node n t ks, l => if 1000000 < l.length then l else if t.data.toList = [] ∧ ks = [] then l ++ (60 :: n.data.toList ++ [47, 62])
    else wrKs ks (l ++ (60 :: n.data.toList ++ 62 :: escL t.data.toList)) ++ (60 :: 47 :: n.data.toList ++ [62])
def wrKs : List Tree → Bs → Bs
  | [], l => l
  | k :: ks, l => wrKs ks (wrT k l)
end
/-- two texts are the same, or both are too long -/
def Alike (a b : Bs) : Prop := a = b ∨ (1000000 < a.length ∧ 1000000 < b.length)
theorem Alike.app {a b : Bs} (h : Alike a b) (c : Bs) : Alike (a ++ c) (b ++ c) := by
  rcases h with rfl | ⟨h1, h2⟩
  · exact .inl rfl
  · exact .inr ⟨by rw [List.length_append]; omega, by rw [List.length_append]; omega⟩

structure WrLaw (t : Tree) (l : Bs) : Prop where
  alike : Alike (wrT t l) (l ++ writeL t)
  low : l.length ≤ (wrT t l).length
  high : (wrT t l).length ≤ l.length + (writeL t).length
structure WrKsLaw (ks : List Tree) (l : Bs) : Prop where
  alike : Alike (wrKs ks l) (l ++ writeKids ks)
  low : l.length ≤ (wrKs ks l).length
  high : (wrKs ks l).length ≤ l.length + (writeKids ks).length
theorem wrKs_law : ∀ (ks : List Tree), (∀ k ∈ ks, ∀ l, WrLaw k l) → ∀ l, WrKsLaw ks l := by
  intro ks
  induction ks with
  | nil => intro _ l; exact ⟨.inl (by simp [wrKs, writeKids]), by simp [wrKs], by simp [wrKs]⟩
  | cons k ks ih =>
    intro h l
    have h1 := h k (by simp) l
    have h2 := ih (fun x hx => h x (by simp [hx])) (wrT k l)
    refine ⟨?_, ?_, ?_⟩
    · rcases h1.alike with e | ⟨e1, e2⟩
      · have h3 := h2.alike
        simp only [wrKs, writeKids]
        rw [show l ++ (writeL k ++ writeKids ks) = wrT k l ++ writeKids ks from by rw [e, List.append_assoc]]
        exact h3
      · refine .inr ⟨Nat.lt_of_lt_of_le e1 h2.low, ?_⟩
        simp only [writeKids, List.length_append] at e2 ⊢
        omega
    · exact Nat.le_trans h1.low h2.low
    · have h3 := h2.high
      have h4 := h1.high
      simp only [wrKs, writeKids, List.length_append] at h3 h4 ⊢
      omega
theorem wr_law : ∀ (t : Tree) (l : Bs), WrLaw t l := by
  apply treeInd
  intro n t ks ih l
  have hk := fun l => wrKs_law ks ih l
  by_cases h1 : 1000000 < l.length
  · have e : wrT (.node n t ks) l = l := by unfold wrT; exact if_pos h1
    exact ⟨by rw [e]; exact .inr ⟨h1, by rw [List.length_append]; omega⟩, by rw [e]; exact Nat.le_refl _, by rw [e]; omega⟩
  by_cases h2 : t.data.toList = [] ∧ ks = []
  · have e : wrT (.node n t ks) l = l ++ (60 :: n.data.toList ++ [47, 62]) := by unfold wrT; rw [if_neg h1, if_pos h2]
    have e2 : writeL (.node n t ks) = 60 :: n.data.toList ++ [47, 62] := by unfold writeL; rw [if_pos h2]
    exact ⟨by rw [e, e2]; exact .inl rfl, by rw [e, List.length_append]; omega, by rw [e, e2, List.length_append]; omega⟩
  · have e : wrT (.node n t ks) l = wrKs ks (l ++ (60 :: n.data.toList ++ 62 :: escL t.data.toList)) ++ (60 :: 47 :: n.data.toList ++ [62]) := by unfold wrT; rw [if_neg h1, if_neg h2]
    have e2 : writeL (.node n t ks) = (60 :: n.data.toList ++ 62 :: escL t.data.toList) ++ writeKids ks ++ (60 :: 47 :: n.data.toList ++ [62]) := by
      rw [writeL, if_neg h2]
      simp only [List.append_assoc, List.cons_append]
    have h3 := hk (l ++ (60 :: n.data.toList ++ 62 :: escL t.data.toList))
    refine ⟨?_, ?_, ?_⟩
    · have h5 := h3.alike.app (60 :: 47 :: n.data.toList ++ [62])
      rw [e, e2]
      simpa only [List.append_assoc] using h5
    · have h4 := h3.low
      rw [e, List.length_append]
      rw [List.length_append] at h4
      omega
    · have h4 := h3.high
      rw [e, e2]
      simp only [List.length_append] at h4 ⊢
      omega
/-- what is too long is told as too long, and else it is all -/
theorem wr_head (t : Tree) : (1000000 < (wrT t headC).length ↔ 1000000 < (headC ++ writeL t).length) ∧ ((headC ++ writeL t).length ≤ 1000000 → wrT t headC = headC ++ writeL t) := by
  rcases (wr_law t headC).alike with e | ⟨h1, h2⟩
  · rw [e]; exact ⟨Iff.rfl, fun _ => rfl⟩
  · exact ⟨⟨fun _ => h2, fun _ => h1⟩, fun h => absurd h2 (by omega)⟩

mutual
/-- no name and no text is beyond what the replacer was shown at -/
def SmT : Tree → Prop
  | .node n t ks => n.data.toList.length ≤ 4000000 ∧ t.data.toList.length ≤ 4000000 ∧ SmKs ks
def SmKs : List Tree → Prop
  | [] => True
  | k :: ks => SmT k ∧ SmKs ks
end
theorem SmKs.at {ks : List Tree} (h : SmKs ks) : ∀ k ∈ ks, SmT k := by
  induction ks with
  | nil => intro k hk; cases hk
  | cons x ks ih =>
    intro k hk
    unfold SmKs at h
    rcases List.mem_cons.1 hk with rfl | hk
    · exact h.1
    · exact ih h.2 k hk
theorem smKs_of {ks : List Tree} (h : ∀ k ∈ ks, SmT k) : SmKs ks := by
  induction ks with
  | nil => unfold SmKs; trivial
  | cons x ks ih => unfold SmKs; exact ⟨h x (by simp), ih fun k hk => h k (by simp [hk])⟩
theorem esc_long (l : Bs) : l.length ≤ (escL l).length := by
  induction l with
  | nil => simp
  | cons x l ih =>
    have e : escL (x :: l) = escB x ++ escL l := by simp [escL]
    have hx : 1 ≤ (escB x).length := by unfold escB; repeat' split
                                        all_goals simp
    rw [e, List.length_append, List.length_cons]
    omega
theorem kids_long {ks : List Tree} {k : Tree} (hk : k ∈ ks) : (writeL k).length ≤ (writeKids ks).length := by
  induction ks with
  | nil => cases hk
  | cons x ks ih =>
    rw [writeKids, List.length_append]
    rcases List.mem_cons.1 hk with rfl | hk
    · omega
    · have := ih hk; omega
/-- what is short as a whole is short everywhere -/
theorem sm_of_short : ∀ (t : Tree), (writeL t).length ≤ 4000000 → SmT t := by
  apply treeInd
  intro n t ks ih h
  unfold SmT
  unfold writeL at h
  have hl := esc_long t.data.toList
  split at h
  · rename_i hc
    simp only [List.length_append, List.length_cons] at h
    exact ⟨by omega, by rw [hc.1]; simp, by rw [hc.2]; unfold SmKs; trivial⟩
  · simp only [List.length_append, List.length_cons] at h
    refine ⟨by omega, by omega, smKs_of fun k hk => ih k hk ?_⟩
    have := kids_long hk
    omega
theorem write_bound : ∀ (t : Tree), SmT t → (writeL t).length ≤ cntT t * 40000000 := by
  apply treeInd
  intro n t ks ih h
  have hkids : ∀ ks' : List Tree, (∀ k ∈ ks', k ∈ ks) → (∀ k ∈ ks', SmT k) → (writeKids ks').length ≤ cntKs ks' * 40000000 := by
    intro ks'
    induction ks' with
    | nil => intro _ _; simp [writeKids]
    | cons x xs ihx =>
      intro hm hs
      have h1 := ih x (hm x (by simp)) (hs x (by simp))
      have h2 := ihx (fun k hk => hm k (by simp [hk])) (fun k hk => hs k (by simp [hk]))
      rw [writeKids, List.length_append, cntKs]
      omega
  unfold SmT at h
  have h3 := hkids ks (fun _ h => h) (SmKs.at h.2.2)
  have h4 := esc_len t.data.toList
  have h5 := h.1
  have h6 := h.2.1
  unfold writeL cntT
  split
  · simp only [List.length_append, List.length_cons, List.length_nil]
    omega
  · simp only [List.length_append, List.length_cons, List.length_nil]
    omega
theorem cntKs_at {ks : List Tree} {k : Tree} (hk : k ∈ ks) : cntT k ≤ cntKs ks := by
  induction ks with
  | nil => cases hk
  | cons x ks ih =>
    rw [cntKs]
    rcases List.mem_cons.1 hk with rfl | hk
    · omega
    · have := ih hk; omega
end Go.Proofs.YtgmgghbocidibaaGreatDoor
