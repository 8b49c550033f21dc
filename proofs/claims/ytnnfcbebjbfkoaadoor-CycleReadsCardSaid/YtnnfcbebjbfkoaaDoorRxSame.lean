/-
  storehouseref15: Right, alike, Same; storehouseref22.Known: at elements that are the same tree.
-/
import Derived.Test.YtnnfcbebjbfkoaaDoorRxRight
import Derived.StillTailTactics
namespace Go.Proofs.YtnnfcbebjbfkoaaDoor
open Go.RowKit Go.PlainAid

def rightB (t : Tree) : Bool := (rightV t 0 20000).1

/-- what a walk wants of an element that is handed over -/
structure ElemAt (w : World) (t : Tree) (a : Option Addr) : Prop where
  len : t.kids.length ≤ 2513169434843
  name : t.name.size ≤ maxRead
  text : t.text.size ≤ maxRead
  kids : KidsIn w t.kids a 0
theorem ElemAt.later {w w' : World} {t : Tree} {a : Option Addr} (h : ElemAt w t a) (hb : Below w.heap.size w w') : ElemAt w' t a := ⟨h.len, h.name, h.text, KidsIn.later hb _ _ _ h.kids⟩

set_option maxHeartbeats 1000000 in
set_option maxRecDepth 100000 in
theorem Right_any (t : Tree) (a : Option Addr) (c : Nat) (w : World) (h : ElemAt w t a) :
    Calls Tryd.prog 35 #[elemV' t a c] w fun e w' => e = .returned (.bool (rightB t)) ∧ Below w.heap.size w w' := by
  have HC := Lib.hid (fun W (hW : Below w.heap.size w W) => right_any t a c 0 20000 W h.len (by omega) (by omega) (by omega) (by omega) h.name h.text (KidsIn.later hW _ _ _ h.kids))
  obtain ⟨r, hr⟩ : ∃ r, Hid (rightV t 0 20000 = r) := ⟨_, rfl⟩
  have e : rightB t = r.1 := by unfold rightB; rw [hr.out]
  rw [e]
  rw [hr.out] at HC
  obtain ⟨n, tx, ks⟩ := t
  simp only [elemV', Tree.name, Tree.text, Tree.kids] at *
  clear e hr h
  go_enter Tryd.func35, Tryd.ntmps35
  go_wp2_with fail
  refine Calls.mono (HC.out _ (below_alloc (Below.refl _ _) (Nat.le_refl _) _)) ?_
  rintro e w1 ⟨rfl, hb1⟩
  have B1 : Hid (Below w.heap.size w w1) := (below_alloc (Below.refl _ _) (Nat.le_refl _) _).trans (hb1.mono (by simp))
  clear hb1
  go_wp2
  go_ret
  exact ⟨rfl, B1.out⟩

set_option maxHeartbeats 1000000 in
set_option maxRecDepth 100000 in
theorem Known_any (t : Tree) (a : Option Addr) (c : Nat) (w : World) (h : ElemAt w t a) :
    Calls Tryd.prog 17 #[elemV' t a c] w fun e w' => e = .returned (.bool (rightB t)) ∧ Below w.heap.size w w' := by
  have HC := Lib.hid (fun W (hW : Below w.heap.size w W) => Right_any t a c W (h.later hW))
  obtain ⟨r, hr⟩ : ∃ r, Hid (rightB t = r) := ⟨_, rfl⟩
  rw [hr.out] at HC ⊢
  obtain ⟨n, tx, ks⟩ := t
  simp only [elemV', Tree.name, Tree.text, Tree.kids] at *
  clear hr h
  go_enter Tryd.func17, Tryd.ntmps17
  go_wp2_with fail
  refine Calls.mono (HC.out _ (below_alloc (Below.refl _ _) (Nat.le_refl _) _)) ?_
  rintro e w1 ⟨rfl, hb1⟩
  have B1 : Hid (Below w.heap.size w w1) := (below_alloc (Below.refl _ _) (Nat.le_refl _) _).trans (hb1.mono (by simp))
  clear hb1
  go_wp2
  go_ret
  exact ⟨rfl, B1.out⟩

set_option maxHeartbeats 4000000 in
set_option maxRecDepth 100000 in
theorem alike_node (n tx : ByteArray) (ks : List Tree) (a a' : Option Addr) (c c' : Nat) (w : World) (hl : ks.length ≤ 2513169434843) (hk : KidsIn w ks a 0) (hk' : KidsIn w ks a' 0)
    (ih : ∀ k ∈ ks, ∀ (a a' : Option Addr) (c c' : Nat) (w : World), k.kids.length ≤ 2513169434843 → KidsIn w k.kids a 0 → KidsIn w k.kids a' 0 →
      Calls Tryd.prog 36 #[elemV' k a c, elemV' k a' c'] w fun e w' => e = .returned (.bool true) ∧ Below w.heap.size w w') :
    Calls Tryd.prog 36 #[.agg #[.string n, .string tx, .slice a ks.length c], .agg #[.string n, .string tx, .slice a' ks.length c']] w fun e w' => e = .returned (.bool true) ∧ Below w.heap.size w w' := by
  have HK := Lib.hid hk
  have HK' := Lib.hid hk'
  have IH := Lib.hid ih
  clear hk hk' ih
  go_enter Tryd.func36, Tryd.ntmps36
  go_wp2
  go_loopg [5, 6] ks.length (fun gg s5 _ wr => ∃ i : Nat, i ≤ ks.length ∧ ks.length - i ≤ gg ∧ s5 = .int .i64 i ∧
    Hid (wr.heap[w.heap.size]? = some (.cells #[.string n, .string tx, .slice a ks.length c] 24 (0, 0))) ∧ Hid (wr.heap[w.heap.size + 1]? = some (.cells #[.string n, .string tx, .slice a' ks.length c'] 24 (0, 0))) ∧ Hid (Below w.heap.size w wr))
  case atStart =>
    refine ⟨0, Nat.zero_le _, by omega, rfl, (show Hid _ from ?_), (show Hid _ from heap_at1 _ _ _), (show Hid _ from below_alloc (below_alloc (Below.refl _ _) (Nat.le_refl _) _) (Nat.le_refl _) _)⟩
    exact (Below.heap_alloc _ _ _ (by simp)).trans (heap_alloc_new _ _)
  case round =>
    obtain ⟨i, hin, hgg, rfl, HH, HH', HB⟩ := hrel
    have q0 : wr.cell? ⟨w.heap.size, 0, none⟩ = some (.string n) := cell_of_heap HH.out
    have q2 : wr.cell? ⟨w.heap.size, 2, none⟩ = some (.slice a ks.length c) := cell_of_heap HH.out
    have p0 : wr.cell? ⟨w.heap.size + 1, 0, none⟩ = some (.string n) := cell_of_heap HH'.out
    have p2 : wr.cell? ⟨w.heap.size + 1, 2, none⟩ = some (.slice a' ks.length c') := cell_of_heap HH'.out
    by_cases hi : i < ks.length
    · have hiz : (i : Int) < (ks.length : Int) := by omega
      obtain ⟨k, HKi⟩ : ∃ k, Hid (ks[i]? = some k) := ⟨_, List.getElem?_eq_getElem hi⟩
      obtain ⟨b, off, x, y, rfl, k0, k1, k2, _, _, kl, kk, _⟩ := (KidsIn.later HB.out _ _ _ HK.out).kid HKi.out
      obtain ⟨b', off', x', y', rfl, k0', k1', k2', _, _, _, kk', _⟩ := (KidsIn.later HB.out _ _ _ HK'.out).kid HKi.out
      have HC := Lib.hid (fun W (hW : Below wr.heap.size wr W) => IH.out k (List.mem_of_getElem? HKi.out) x x' y y' W kl (KidsIn.later hW _ _ _ kk) (KidsIn.later hW _ _ _ kk'))
      simp only [elemV'] at HC
      clear kk kk' kl
      go_wp2
      go_still_tail 10, (by kernel_rfl)
      change wpList _ _ _ _ _ wr.drew
      obtain ⟨wd, hwd⟩ : ∃ wd, Hid (wr.drew = wd) := ⟨_, rfl⟩
      rw [hwd.out]
      have BD : Hid (Below wr.heap.size wr wd) := by show Below _ _ _; rw [← hwd.out]; exact (Below.refl _ _).drew
      clear k0 k1 k2 k0' k1' k2' q0 q2 p0 p2
      go_wp2_with fail
      refine (HC.out wd BD.out).mono ?_
      rintro e w1 ⟨rfl, hb1⟩
      have B1 : Hid (Below wr.heap.size wr w1) := BD.out.trans (hb1.mono BD.out.size)
      have HH1 : Hid (w1.heap[w.heap.size]? = some (.cells #[.string n, .string tx, .slice (some ⟨b, off, none⟩) ks.length c] 24 (0, 0))) := (B1.out.block _ (Array.getElem?_eq_some_iff.1 HH.out).1).trans HH.out
      have HH1' : Hid (w1.heap[w.heap.size + 1]? = some (.cells #[.string n, .string tx, .slice (some ⟨b', off', none⟩) ks.length c'] 24 (0, 0))) := (B1.out.block _ (Array.getElem?_eq_some_iff.1 HH'.out).1).trans HH'.out
      have HB1 : Hid (Below w.heap.size w w1) := HB.out.trans (B1.out.mono HB.out.size)
      clear hb1 hwd
      go_wp2
      go_roundg (ks.length - (i + 1))
      case measure => omega
      case rel => exact ⟨i + 1, by omega, Nat.le_refl _, by go_num, HH1.out, HH1'.out, HB1.out⟩
    · obtain rfl : i = ks.length := by omega
      go_wp2
      go_ret
      exact ⟨rfl, HB.out⟩

/-- alike, at two elements that are the same tree -/
theorem alike_any : ∀ (t : Tree) (a a' : Option Addr) (c c' : Nat) (w : World), t.kids.length ≤ 2513169434843 → KidsIn w t.kids a 0 → KidsIn w t.kids a' 0 →
    Calls Tryd.prog 36 #[elemV' t a c, elemV' t a' c'] w fun e w' => e = .returned (.bool true) ∧ Below w.heap.size w w' := by
  apply Tree.ind
  intro n tx ks ih a a' c c' w hl hk hk'
  simp only [Tree.kids] at *
  exact alike_node n tx ks a a' c c' w hl hk hk' ih

set_option maxHeartbeats 1000000 in
set_option maxRecDepth 100000 in
theorem Same_any (t : Tree) (a a' : Option Addr) (c c' : Nat) (w : World) (h : ElemAt w t a) (h' : ElemAt w t a') :
    Calls Tryd.prog 15 #[elemV' t a c, elemV' t a' c'] w fun e w' => e = .returned (.bool (rightB t)) ∧ Below w.heap.size w w' := by
  have HC := Lib.hid (fun W (hW : Below w.heap.size w W) => Right_any t a c W (h.later hW))
  have HC' := Lib.hid (fun W (hW : Below w.heap.size w W) => Right_any t a' c' W (h'.later hW))
  have HA := Lib.hid (fun W (hW : Below w.heap.size w W) => alike_any t a a' c c' W h.len (KidsIn.later hW _ _ _ h.kids) (KidsIn.later hW _ _ _ h'.kids))
  obtain ⟨r, hr⟩ : ∃ r, Hid (rightB t = r) := ⟨_, rfl⟩
  rw [hr.out] at HC HC' ⊢
  obtain ⟨n, tx, ks⟩ := t
  simp only [elemV', Tree.name, Tree.text, Tree.kids] at *
  clear hr h h'
  go_enter Tryd.func15, Tryd.ntmps15
  go_wp2_with fail
  refine Calls.mono (HC.out _ (below_alloc (below_alloc (Below.refl _ _) (Nat.le_refl _) _) (Nat.le_refl _) _)) ?_
  rintro e w1 ⟨rfl, hb1⟩
  have HH1 : Hid (w1.heap[w.heap.size]? = some (.cells #[.string n, .string tx, .slice a ks.length c] 24 (0, 0))) := (hb1.block _ (by simp; omega)).trans ((Below.heap_alloc _ _ _ (by simp)).trans (heap_alloc_new _ _))
  have HH2 : Hid (w1.heap[w.heap.size + 1]? = some (.cells #[.string n, .string tx, .slice a' ks.length c'] 24 (0, 0))) := (hb1.block _ (by simp)).trans (heap_at1 _ _ _)
  have B1 : Hid (Below w.heap.size w w1) := (below_alloc (below_alloc (Below.refl _ _) (Nat.le_refl _) _) (Nat.le_refl _) _).trans (hb1.mono (by simp; omega))
  clear hb1
  have q0 : w1.cell? ⟨w.heap.size, 0, none⟩ = some (.string n) := cell_of_heap HH1.out
  have q1 : w1.cell? ⟨w.heap.size, 1, none⟩ = some (.string tx) := cell_of_heap HH1.out
  have q2 : w1.cell? ⟨w.heap.size, 2, none⟩ = some (.slice a ks.length c) := cell_of_heap HH1.out
  have p0 : w1.cell? ⟨w.heap.size + 1, 0, none⟩ = some (.string n) := cell_of_heap HH2.out
  have p1 : w1.cell? ⟨w.heap.size + 1, 1, none⟩ = some (.string tx) := cell_of_heap HH2.out
  have p2 : w1.cell? ⟨w.heap.size + 1, 2, none⟩ = some (.slice a' ks.length c') := cell_of_heap HH2.out
  go_wp2_with fail
  refine Calls.mono (HC'.out _ B1.out) ?_
  rintro e w2 ⟨rfl, hb2⟩
  have B2 : Hid (Below w.heap.size w w2) := B1.out.trans (hb2.mono B1.out.size)
  replace q0 := cell_later hb2 q0
  replace q1 := cell_later hb2 q1
  replace q2 := cell_later hb2 q2
  replace p0 := cell_later hb2 p0
  replace p1 := cell_later hb2 p1
  replace p2 := cell_later hb2 p2
  clear hb2
  cases r with
  | false =>
    go_wp2
    go_ret
    exact ⟨rfl, B2.out⟩
  | true =>
    go_wp2_with fail
    refine Calls.mono (HA.out _ B2.out) ?_
    rintro e w3 ⟨rfl, hb3⟩
    have B3 : Hid (Below w.heap.size w w3) := B2.out.trans (hb3.mono B2.out.size)
    clear hb3
    go_wp2
    go_ret
    exact ⟨rfl, B3.out⟩

end Go.Proofs.YtnnfcbebjbfkoaaDoor
